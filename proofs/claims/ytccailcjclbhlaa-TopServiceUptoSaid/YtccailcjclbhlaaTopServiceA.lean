/-
  Proved here: felltop.TopService returns true where what is read is of bulk at most 1048576.
-/
import Derived.Test.YtccailcjclbhlaaTopServiceA16
import Derived.Test.YtccailcjclbhlaaRows
import Derived.Test.YtccailcjclbhlaaTopServiceA3
import Derived.JoinedCond
/-! The walk of felltop.TopService: it returns true. Conditions: asks, edits, weights are 524288 at most. -/
namespace Go.Proofs.Ytccailcjclbhlaa
open Go.RowKit
set_option linter.unusedSimpArgs false
set_option linter.unusedVariables false
set_option maxRecDepth 100000 in
set_option maxHeartbeats 8000000 in
theorem walk_TopService (x0 y0 : Int) (a0 : Option Addr) (cap0 : Nat) (cs0 : List Int) (a1 : Option Addr) (cap1 : Nat) (x1 : List P2) (a2 : Option Addr) (cap2 : Nat) (x2 : List P2) (a3 : Option Addr) (cap3 : Nat) (x3 : List P2) (w : World) (b0 : Bd x0) (c0 : Bd y0) (l0 : cs0.length ≤ cap0) (m0 : cap0 ≤ maxLen) (r0 : Row encI 1 w w.heap.size a0 cs0) (be0 : ∀ x ∈ cs0, Bd x) (l1 : x1.length ≤ cap1) (m1 : cap1 ≤ maxLen) (r1 : Row encP 2 w w.heap.size a1 x1) (b1 : ∀ x ∈ x1, BdP x) (l2 : x2.length ≤ cap2) (m2 : cap2 ≤ maxLen) (r2 : Row encP 2 w w.heap.size a2 x2) (b2 : ∀ x ∈ x2, BdP x) (l3 : x3.length ≤ cap3) (m3 : cap3 ≤ maxLen) (r3 : Row encP 2 w w.heap.size a3 x3) (b3 : ∀ x ∈ x3, BdP x) (n1 : x1.length ≤ 524288) (n2 : x2.length ≤ 524288) (n3 : x3.length ≤ 524288) :
    Calls Try.prog 3 #[.agg #[.int .i64 x0, .int .i64 y0, .slice a0 cs0.length cap0], .slice a1 x1.length cap1, .slice a2 x2.length cap2, .slice a3 x3.length cap3] w fun e w' => e = .returned (.bool true) ∧ Below w.heap.size w w' := by
  have hcs : cs0.length ≤ 9223372036854775807 := by unfold maxLen at *; omega
  have hBg := hide (fun (w' : World) => begun_any w')
  obtain ⟨G0, hG0⟩ : ∃ G, G = w.alloc (.cells #[.int .i64 x0, .int .i64 y0, .slice a0 cs0.length cap0] 24) := ⟨_, rfl⟩
  have hb00 : Below w.heap.size w G0 := by rw [hG0]; exact up_alloc (Below.refl _ _) (Nat.le_refl _)
  have e0 : G0.cell? ⟨w.heap.size, 0, none⟩ = some (.int .i64 x0) := by rw [hG0]; simp [go_sem]
  have e1 : G0.cell? ⟨w.heap.size, 1, none⟩ = some (.int .i64 y0) := by rw [hG0]; simp [go_sem]
  have e2 : G0.cell? ⟨w.heap.size, 2, none⟩ = some (.slice a0 cs0.length cap0) := by rw [hG0]; simp [go_sem]
  have zg : w.heap.size < G0.heap.size := cell_lt e0
  have hb00 := hide hb00
  by_cases h0 : gridErr x0 y0 cs0 = 0
  · have hn64 : cs0.length ≤ 64 := by
      obtain ⟨h1, h2, h3, h4, h5, _⟩ := gridErr_ok h0
      have : x0 * y0 ≤ 8 * 8 := Int.mul_le_mul h2 h4 (by omega) (by omega)
      omega
    have hNew := hide (fun (w' : World) (hb : Below w.heap.size w w') => snew_ok x0 y0 a0 cap0 cs0 w' w.heap.size hb.size (r0.below hb (Nat.le_refl _)) (by omega) h0)
    obtain ⟨n0, hn0⟩ : ∃ n, n = cs0.length := ⟨_, rfl⟩
    rw [← hn0] at hNew e2 hG0
    rw [← hn0]
    replace hn0 := hide hn0
    have hrw1 := hide r1
    have hrw2 := hide r2
    have hrw3 := hide r3
    have hn1 := hide n1
    have hn2 := hide n2
    have hn3 := hide n3
    obtain ⟨m1, hm1⟩ : ∃ m, m = x1.length := ⟨_, rfl⟩
    obtain ⟨m2, hm2⟩ : ∃ m, m = x2.length := ⟨_, rfl⟩
    obtain ⟨m3, hm3⟩ : ∃ m, m = x3.length := ⟨_, rfl⟩
    rw [← hm1, ← hm2, ← hm3]
    rw [← hm1] at hn1
    rw [← hm2] at hn2
    rw [← hm3] at hn3
    replace hm1 := hide hm1
    replace hm2 := hide hm2
    replace hm3 := hide hm3
    have hAsk := hide (fun (w' : World) (hb : Below w.heap.size w w') (svb : Nat) (σ : Sv) (P : Nat → Prop) (hP : PSv σ svb P w') (f t : Int) => pask_any hP f t a3 m3 cap3 x3 hm3.out.symm (by have := hn3.out; omega) w.heap.size hb.size (hrw3.out.below hb (Nat.le_refl _)))
    clear r0 r1 b1 r2 b2 r3 b3 n1 n2 n3 l0 m0 be0 l1 l2 l3 b0 c0 hcs hn64 h0
    go_enter Try.func3, Try.ntmps3
    go_upto_region 1 with fail
    simp only [← hG0]
    replace hG0 := hide hG0
    go_wp2_with fail
    refine (hNew.out _ hb00.out).mono ?_
    rintro e w1 ⟨svb, P1, rfl, hP1, hPlo, hb1⟩
    have hB1 := hide (below_step hb00.out hb1)
    have hP1 := hide hP1
    have hPlo := hide (fun (j : Nat) (h : P1 j) => Nat.le_trans hb00.out.size (hPlo j h))
    clear hb1 e0 e1 e2
    go_wp2_with fail
    refine (hBg.out _).mono ?_
    rintro e w2 ⟨rfl, hb2⟩
    have hT2 := hide (show TS svb w.heap.size x3 w (sv0 x0 y0 cs0) P1 [] none 0 0 w2 from ⟨hP1.out.stays hb2, cn_zero, fun i q hi hq => (by cases hq), Own.nil _ _, rfl, fun j hj => ⟨hPlo.out j hj, by simp [Value.ownBlock]⟩, hB1.out.trans (hb2.mono hB1.out.size)⟩)
    clear hb2 hP1 hPlo hB1 hNew hBg
    go_wp2_with fail
    go_loopw [11, 47] (fun s11 i wr => ∃ (k n cv : Nat) (av : Option Addr) (l : List P2) (σ : Sv) (P : Nat → Prop), k ≤ m1 ∧ n ≤ 6 ∧ s11 = .slice av n cv ∧ i = .int .i64 (k : Int) ∧ Hid (TS svb w.heap.size x3 w σ P l av n cv wr)) (fun _ i _ => m1 - (intOf i).toNat)
    case atStart => exact ⟨0, 0, 0, none, [], _, P1, Nat.zero_le _, by omega, rfl, rfl, hT2⟩
    case round =>
      clear hT2
      obtain ⟨k, n, cv, av, l, σ, P, hk1, hn6, rfl, rfl, hT⟩ := hrel
      by_cases hk : k < m1
      · have hkx : k < x1.length := by have := hm1.out; omega
        obtain ⟨b, o, rfl, hbl, hc⟩ := hrw1.out k hkx
        have c0 : w.cell? ⟨b, o + k * 2, none⟩ = some (.int .i64 x1[k].a) := hc 0 _ rfl
        have c1 : w.cell? ⟨b, o + k * 2 + 1, none⟩ = some (.int .i64 x1[k].b) := hc 1 _ rfl
        have c0 := cu_below hT.out.b c0 hbl
        have c1 := cu_below hT.out.b c1 hbl
        have zb : b < wr.heap.size := Nat.lt_of_lt_of_le hbl hT.out.b.size
        generalize x1[k].a = xa at c0
        generalize x1[k].b = xb at c1
        have i1 : (0 : Int) ≤ (k : Int) ∧ (k : Int) < (m1 : Int) := by omega
        have hwk := hide (show wrap64 ((k : Int) + 1) = ((k + 1 : Nat) : Int) by rw [IntWalk.wrap64_in _ (by have := hn1.out; omega)]; omega)
        obtain ⟨w2, hw2⟩ : ∃ w2, w2 = wr.alloc (.cells #[.int .i64 xa, .int .i64 xb] 33) := ⟨_, rfl⟩
        have hb2 : Below wr.heap.size wr w2 := by rw [hw2]; exact up_alloc (Below.refl _ _) (Nat.le_refl _)
        have d0 : w2.cell? ⟨wr.heap.size, 0, none⟩ = some (.int .i64 xa) := by rw [hw2]; simp [go_sem]
        have d1 : w2.cell? ⟨wr.heap.size, 1, none⟩ = some (.int .i64 xb) := by rw [hw2]; simp [go_sem]
        have zx : wr.heap.size < w2.heap.size := cell_lt d0
        have hT2 := hide (hT.out.stays hT.out.b.size hb2)
        have hnP := hide (show ¬ P wr.heap.size from fun h => absurd (hT.out.p.2.1 _ h) (by omega))
        have hA := hide (hAsk.out w2 hT2.out.b svb σ P hT2.out.p xa xb)
        have hzr := hide hT.out.b.size
        clear hT hc hb2
        go_upto_region 8 with fail
        simp only [← hw2]
        replace hw2 := hide hw2
        clear c0 c1
        go_wp2_with fail
        refine hA.out.mono ?_
        rintro e w3 ⟨nn, er, σ3, rfl, hI, hL⟩
        have hz2 := hT2.out.b.size
        rcases hT2.out.c.ask hI with ⟨h1, hC⟩ | ⟨h1, h2, hC⟩
        · have q1 : (er == 0) = false := by simp [h1]
          have hT3 := hide (hT2.out.left hz2 hL hC (hT2.out.r.ask hI))
          clear h1 hC hI hL hA hT2 d0 d1
          go_wp2
          go_roundw
          case rel => exact ⟨k + 1, n, cv, av, l, σ3, _, by omega, hn6, rfl, by rw [hwk.out], hT3⟩
          case measure => rw [hwk.out]; simp [intOf]; omega
        · subst h1
          have q2 : ((nn : Int) != (n : Int)) = false := by rw [h2, hT2.out.ln]; simp
          have hkp := hL.2
          have hP3 := hL.1
          have d0 := hkp.cu d0 hnP.out
          have d1 := hkp.cu d1 hnP.out
          have hn6' : n + 1 ≤ 6 := by have := hC.1; have := hT2.out.ln; simp at this ⊢; simp at *; omega
          have hz3 := Nat.le_trans hz2 hkp.size
          have ho3 := hide (hkp.own hT2.out.o (fun j e hp => (hT2.out.a j hp).2 e))
          have zx3 : wr.heap.size < w3.heap.size := cell_lt d0
          have hPush := hide (fun (o : Obj) (g c : Nat) (w' : World) kp own hat => show TS svb w.heap.size x3 w σ3 (grown P w2 w3) (l ++ [⟨xa, xb⟩]) (some ⟨g, 0, none⟩) (n + 1) c w' from TS.push' hT2.out hz2 hL hC (hT2.out.r.ask hI) (o := o) kp own hat)
          have hln := hide hT2.out.ln
          clear h2 hI hL hA hT2 hkp hP3 hC
          go_wp2_with (at_builtin; (refine wpList_pushL (e := 33) (enc := encP) (xs := l) (v := .slice av (n) cv) (base := w.heap.size) rfl (.tmp 67) (.tmp 69) 25 rfl _ 16 Try.underlying25 info_pair rfl ?d17 lenP oneP (n) ?d27 ?d37 ?d47 ⟨w3.heap.size, 0, none⟩ 1 ⟨xa, xb⟩ ?d57 ?d67 ?d77 ?d87 ?d97 ?_); (case d17 => omega); (case d27 => exact hln.out); (case d37 => rfl); (case d47 => exact (ho3.out.alloc _)); (case d57 => rfl); (case d67 => exact newP _ _ _ _ rfl); (case d77 => omega); (case d87 => unfold maxLen; omega); (case d97 => first | omega | (simp; done) | (simp; omega)); intro g7 c7 w7 own7 hb7 hgr7 hat7 hgl7; have kp7 := Keep.grown (S := fun j => (Value.slice av n cv).ownBlock = some j) (Keep.refl _ _) hgr7 (fun j hj => .inl hj); have hT4 := hide (hPush.out _ g7 c7 w7 kp7 own7 (hat7.imp id (fun e => Nat.le_of_eq e.symm))); clear kp7 own7 hgr7 hat7)
          go_roundw
          case rel => exact ⟨k + 1, n + 1, c7, some ⟨g7, 0, none⟩, l ++ [⟨xa, xb⟩], σ3, _, by omega, hn6', rfl, by rw [hwk.out], hT4⟩
          case measure => rw [hwk.out]; simp [intOf]; omega
      · obtain rfl : k = m1 := by omega
        go_wp2_with fail
        go_loopw [74] (fun i wr => ∃ (k2 : Nat) (σ : Sv) (P : Nat → Prop), k2 ≤ m2 ∧ i = .int .i64 (k2 : Int) ∧ Hid (TS svb w.heap.size x3 w σ P l av n cv wr)) (fun i _ => m2 - (intOf i).toNat)
        case atStart => exact ⟨0, σ, P, Nat.zero_le _, rfl, by first | exact hT | exact hide (hT.out.stays hT.out.b.size (below_drew _))⟩
        case round =>
          clear hT
          obtain ⟨k2, σ, P, hk2, rfl, hT⟩ := hrel
          by_cases hkk : k2 < m2
          · have hkx : k2 < x2.length := by have := hm2.out; omega
            obtain ⟨b, o, rfl, hbl, hc⟩ := hrw2.out k2 hkx
            have c0 : w.cell? ⟨b, o + k2 * 2, none⟩ = some (.int .i64 x2[k2].a) := hc 0 _ rfl
            have c1 : w.cell? ⟨b, o + k2 * 2 + 1, none⟩ = some (.int .i64 x2[k2].b) := hc 1 _ rfl
            have c0 := cu_below hT.out.b c0 hbl
            have c1 := cu_below hT.out.b c1 hbl
            have zb : b < wr.heap.size := Nat.lt_of_lt_of_le hbl hT.out.b.size
            generalize x2[k2].a = xa at c0
            generalize x2[k2].b = xb at c1
            have i1 : (0 : Int) ≤ (k2 : Int) ∧ (k2 : Int) < (m2 : Int) := by omega
            have hwk := hide (show wrap64 ((k2 : Int) + 1) = ((k2 + 1 : Nat) : Int) by rw [IntWalk.wrap64_in _ (by have := hn2.out; omega)]; omega)
            obtain ⟨w2, hw2⟩ : ∃ w2, w2 = wr.alloc (.cells #[.int .i64 xa, .int .i64 xb] 33) := ⟨_, rfl⟩
            have hb2 : Below wr.heap.size wr w2 := by rw [hw2]; exact up_alloc (Below.refl _ _) (Nat.le_refl _)
            have d0 : w2.cell? ⟨wr.heap.size, 0, none⟩ = some (.int .i64 xa) := by rw [hw2]; simp [go_sem]
            have d1 : w2.cell? ⟨wr.heap.size, 1, none⟩ = some (.int .i64 xb) := by rw [hw2]; simp [go_sem]
            have zx : wr.heap.size < w2.heap.size := cell_lt d0
            have hT2 := hide (hT.out.stays hT.out.b.size hb2)
            have hnP := hide (show ¬ P wr.heap.size from fun h => absurd (hT.out.p.2.1 _ h) (by omega))
            clear hT hc hb2
            go_upto_region 17 with fail
            simp only [← hw2]
            replace hw2 := hide hw2
            clear c0 c1
            go_wp2_with fail
            refine (kwithin_any _ 40 (by omega) _).mono ?_
            rintro e w3 ⟨z, rfl, hb3⟩
            have d0 := cu_below hb3 d0 zx
            have d1 := cu_below hb3 d1 zx
            have hT3 := hide (hT2.out.stays hT2.out.b.size hb3)
            have zx3 : wr.heap.size < w3.heap.size := cell_lt d0
            have hF := hide (pframe_any hT3.out.p z)
            clear hb3 hT2
            go_wp2_with fail
            refine hF.out.mono ?_
            rintro e w4 ⟨nf, ef, σ4, rfl, hI4, hL4⟩
            have d0 := hL4.2.cu d0 hnP.out
            have d1 := hL4.2.cu d1 hnP.out
            have zx4 : wr.heap.size < w4.heap.size := cell_lt d0
            have hT4 := hide (hT3.out.left hT3.out.b.size hL4 (hT3.out.c.same (same_frameIs hI4)) (hT3.out.r.frameIs hI4))
            have hE := hide (pedit_any hT4.out.p xa xb)
            clear hI4 hL4 hT3 hF
            go_wp2_with fail
            refine hE.out.mono ?_
            rintro e w5 ⟨ee, σ5, rfl, hI5, hL5⟩
            have hT5 := hide (hT4.out.left hT4.out.b.size hL5 (hT4.out.c.same (same_edit hI5)) (hT4.out.r.edit hI5))
            clear hI5 hL5 hT4 hE d0 d1
            go_wp2
            go_roundw
            case rel => exact ⟨k2 + 1, σ5, _, by omega, by rw [hwk.out], hT5⟩
            case measure => rw [hwk.out]; simp [intOf]; omega
          · obtain rfl : k2 = m2 := by omega
            have hF := hide (pframe_any hT.out.p 10000)
            go_wp2_with fail
            refine hF.out.mono ?_
            rintro e w4 ⟨nf, ef, σ4, rfl, hI4, hL4⟩
            have hT4 := hide (hT.out.left hT.out.b.size hL4 (hT.out.c.same (same_frameIs hI4)) (hT.out.r.frameIs hI4))
            have hOv := hide (frame_end hI4 (fun i q hi hq => (hT4.out.done i q hi hq).1))
            clear hI4 hL4 hT hF
            have hGr := hide (show Calls Try.prog 11 #[.pointer (some ⟨svb, 0, none⟩)] w4 (GridBack σ4.W σ4.H σ4.cs w4) from by
              obtain ⟨hok, hlt, ga, gc, xs, W, N, hX, hin⟩ := hT4.out.p
              exact sground_any σ4.W σ4.H σ4.cs svb w4 hX.gd (by have := hok.n.2.1; omega))
            have hg0 := hide hT4.out.p.1.g
            have hn64 := hide hT4.out.p.1.n
            go_wp2_with fail
            refine hGr.out.mono ?_
            rintro e w5 ⟨a5, c5, rfl, own5, hb5⟩
            have hT5 := hide (hT4.out.stays hT4.out.b.size hb5)
            obtain ⟨pa5, pc5, hev5, hrow5, -, -⟩ := own5.row lenI
            simp only [Value.slice.injEq] at hev5
            rw [← hev5.1] at hrow5
            have hNo := hide (netof_ok σ4.W σ4.H a5 c5 σ4.cs w5 w5.heap.size (Nat.le_refl _) hrow5 hg0.out)
            clear hb5 hT4 own5 hrow5 hev5 hGr
            go_wp2_with fail
            refine hNo.out.mono ?_
            rintro e w6 ⟨v6, rfl, own6, hb6⟩
            obtain ⟨el, hel⟩ : ∃ el, el = (gridNet σ4.W σ4.H σ4.cs σ4.cs.length).length := ⟨_, rfl⟩
            obtain ⟨a6, c6, rfl⟩ := own6.shape hel.symm
            obtain ⟨a6', c6', hv6, hrow6, _⟩ := own6.row lenE
            rw [← hel] at hv6
            cases hv6
            have hT6 := hide (hT5.out.stays hT5.out.b.size hb6)
            obtain ⟨nn, hnn⟩ : ∃ nn, nn = σ4.cs.length := ⟨_, rfl⟩
            rw [← hnn] at hrow6 hel
            simp only [← hnn]
            obtain ⟨w7, hw7⟩ : ∃ w7, w7 = w6.alloc (.cells #[.int .i64 (nn : Int), .slice a6 el c6] 41) := ⟨_, rfl⟩
            obtain ⟨bn, hbn⟩ : ∃ bn, bn = w6.heap.size := ⟨_, rfl⟩
            have hb7 : Below w6.heap.size w6 w7 := by rw [hw7]; exact up_alloc (Below.refl _ _) (Nat.le_refl _)
            have y0 : w7.cell? ⟨bn, 0, none⟩ = some (.int .i64 (nn : Int)) := by rw [hw7, hbn]; simp [go_sem]
            have y1 : w7.cell? ⟨bn, 1, none⟩ = some (.slice a6 el c6) := by rw [hw7, hbn]; simp [go_sem]
            have zn : bn < w7.heap.size := cell_lt y0
            have hT7 := hide (hT6.out.stays hT6.out.b.size hb7)
            have hrow7 := hide ((hrow6.below hb7 (Nat.le_refl _)).mono hb7.size)
            have hLen : el ≤ 100000 := by rw [hel]; have := gridNet_len σ4.W σ4.H σ4.cs nn; have h1 := hn64.out.2.1; omega
            have hSays := hide (fun (k : Nat) (hk : k < n) => hT7.out.says hOv.out hk)
            have hRun := hide (fun (w' : World) (hb : Below w7.heap.size w7 w') (f t : Nat) (ah : Option Addr) (ch : Nat) (hH : Row encI 1 w' w'.heap.size ah (LI nn hZ)) (h0 : lookErr (σ4.cs.length : Int) σ4.es [(f : Int), (t : Int)] = 0) (h1 : wsErr x3 = 0) => show Calls Try.prog 12 #[.agg #[.int .i64 (nn : Int), .slice a6 el c6], .int .i64 (f : Int), .int .i64 (t : Int), .slice ah nn ch, .slice a3 m3 cap3] w' (RunAns σ4.cs.length t σ4.es hZ x3 f w') from by
              have e1 : RunAns nn t (gridNet σ4.W σ4.H σ4.cs nn) hZ x3 f w' = RunAns σ4.cs.length t σ4.es hZ x3 f w' := by rw [hnn]; rfl
              rw [← e1]
              exact arun_z nn f t el a6 c6 (gridNet σ4.W σ4.H σ4.cs nn) hel.symm ah ch a3 m3 cap3 x3 hm3.out.symm w' ((hrow7.out.below hb (Nat.le_refl _)).mono hb.size) hH ((hrw3.out.below (hT7.out.b.trans (hb.mono hT7.out.b.size)) (Nat.le_refl _)).mono (hT7.out.b.trans (hb.mono hT7.out.b.size)).size) hLen (by have := hn64.out.2.1; omega) (by rw [hnn]; exact h0) h1)
            have hes := hide (show gridNet σ4.W σ4.H σ4.cs nn = σ4.es by rw [hnn]; rfl)
            have hnn4 := hide (show nn ≤ 64 by have := hn64.out.2.1; omega)
            replace hnn := hide hnn
            replace hel := hide hel
            go_upto_region 22 with fail
            simp only [← hw7, ← hbn]
            replace hw7 := hide hw7
            replace hbn := hide hbn
            clear own6 hrow6 hb6 hb7 hT5 hT6 hNo hg0 hn64
            have hb77 := hide (Below.refl w7.heap.size w7)
            go_wp2_with fail
            go_loopw [103] (fun i wr => ∃ k3 : Nat, k3 ≤ n ∧ i = .int .i64 (k3 : Int) ∧ Hid (Below w7.heap.size w7 wr)) (fun i _ => n - (intOf i).toNat)
            case atStart => exact ⟨0, Nat.zero_le _, rfl, by first | exact hb77 | exact hide (below_drew _)⟩
            case round =>
              obtain ⟨k3, hk3, rfl, hbr⟩ := hrel
              by_cases hk : k3 < n
              · obtain ⟨f, t, r, hlk, h1m, hws0, hlook, hpq, hp64, hRS⟩ := hSays.out k3 hk
                have hT8 := hide (hT7.out.stays hT7.out.b.size hbr.out)
                obtain ⟨pa, pc, hv, hrowL, -, -⟩ := hT8.out.o.row lenP
                simp only [Value.slice.injEq] at hv
                rw [← hv.1] at hrowL
                have hkl : k3 < l.length := by rw [hT8.out.ln]; exact hk
                obtain ⟨b, o, hav, hbl, hc⟩ := hrowL k3 hkl
                have hlk' : l[k3] = ⟨(f : Int), (t : Int)⟩ := by rw [List.getElem?_eq_getElem hkl] at hlk; exact Option.some.inj hlk
                have c0 : wr.cell? ⟨b, o + k3 * 2, none⟩ = some (.int .i64 (f : Int)) := by have h := hc 0 _ rfl; rw [hlk'] at h; exact h
                have c1 : wr.cell? ⟨b, o + k3 * 2 + 1, none⟩ = some (.int .i64 (t : Int)) := by have h := hc 1 _ rfl; rw [hlk'] at h; exact h
                subst hav
                have i1 : (0 : Int) ≤ (k3 : Int) ∧ (k3 : Int) < (n : Int) := by omega
                have hwk := hide (show wrap64 ((k3 : Int) + 1) = ((k3 + 1 : Nat) : Int) by rw [IntWalk.wrap64_in _ (by omega)]; omega)
                have hmk := fun w => run_zeros w nn (by have := hnn4.out; omega)
                obtain ⟨u, hu⟩ : ∃ u, m3 = u + 1 := ⟨m3 - 1, by have := hm3.out; omega⟩
                have hu8 := (wsErr_ok hws0).2.1
                have hm8 : m3 ≤ 8 := by have := hm3.out; omega
                have hwu : IntKind.i64.wrap ((m3 : Int) - 1) = (u : Int) := by rw [IntWalk.i64_in _ (by omega)]; omega
                have i2 : (0 : Int) ≤ (u : Int) ∧ (u : Int) < (m3 : Int) := by omega
                have qm : ((m3 : Int) == 0) = false := by simp; omega
                have hRun2 := hide (fun (w' : World) (hb : Below w7.heap.size w7 w') (ah : Option Addr) (ch : Nat) (hH : Row encI 1 w' w'.heap.size ah (LI nn hZ)) => (hRun.out w' hb f t ah ch hH hlook hws0).mono (fun e w'' hA => show RunSays m3 r w' e w'' from by rw [hm3.out]; exact hRS w' e w'' hA))
                have hPoll := hide (fun (w' : World) (hb : Below wr.heap.size wr w') => show Calls Try.prog 13 #[.pointer (some ⟨svb, 0, none⟩), .int .i64 (k3 : Int)] w' fun e w'' => ∃ pa pc, e = .returned (.tuple #[.agg #[.int .i64 4, .int .i64 r.wa, .int .i64 r.wb, .slice pa r.path.length pc, .int .i64 r.cost, .int .i64 (r.done : Int)], .int .i64 0]) ∧ Row encI 1 w'' w''.heap.size pa r.path ∧ Below w'.heap.size w' w'' from by
                  have h := ppoll_any (hT8.out.stays hT8.out.b.size hb).p (k3 : Int)
                  rw [hpq] at h
                  refine h.mono ?_
                  rintro e w'' ⟨pa, pm, pc, rfl, rfl, h1, h2⟩
                  exact ⟨pa, pc, rfl, h1, h2⟩)
                have z7 := hbr.out.size
                have y0r := cu_below hbr.out y0 zn
                have y1r := cu_below hbr.out y1 zn
                have znr : bn < wr.heap.size := by omega
                obtain ⟨w8, hw8⟩ : ∃ w8, w8 = wr.alloc (.cells #[.int .i64 (f : Int), .int .i64 (t : Int)] 33) := ⟨_, rfl⟩
                obtain ⟨bp, hbp⟩ : ∃ bp, bp = wr.heap.size := ⟨_, rfl⟩
                have hb8 : Below wr.heap.size wr w8 := by rw [hw8]; exact up_alloc (Below.refl _ _) (Nat.le_refl _)
                have x0 : w8.cell? ⟨bp, 0, none⟩ = some (.int .i64 (f : Int)) := by rw [hw8, hbp]; simp [go_sem]
                have x1 : w8.cell? ⟨bp, 1, none⟩ = some (.int .i64 (t : Int)) := by rw [hw8, hbp]; simp [go_sem]
                have zx : bp < w8.heap.size := cell_lt x0
                have y0 := cu_below hb8 y0r znr
                have y1 := cu_below hb8 y1r znr
                have zn8 : bn < w8.heap.size := cell_lt y0
                have zb : b < wr.heap.size := hbl
                have hb78 := hide (hbr.out.trans (hb8.mono z7))
                have hb8h := hide hb8
                have key := hide (show ∀ w', Below w8.heap.size w8 w' → (fun w' => Below w8.heap.size w8 w' ∧ w'.cell? ⟨bp, 0, none⟩ = some (.int .i64 (f : Int)) ∧ w'.cell? ⟨bp, 1, none⟩ = some (.int .i64 (t : Int)) ∧ w'.cell? ⟨bn, 0, none⟩ = some (.int .i64 (nn : Int)) ∧ w'.cell? ⟨bn, 1, none⟩ = some (.slice a6 el c6)) w' from fun w' hb => ⟨hb, cu_below hb x0 zx, cu_below hb x1 zx, cu_below hb y0 zn8, cu_below hb y1 zn8⟩)
                replace hu := hide hu
                clear hlk h1m hws0 hlook hpq hRS hT8 hrowL hkl hc hlk' hv hu8 hb8 hbl
                go_upto_region 27 with fail
                simp only [← hw8, ← hbp]
                replace hw8 := hide hw8
                replace hbp := hide hbp
                clear c0 c1 y0r y1r x0 x1 y0 y1
                refine wp_region_end (S := (fun w' => Below w8.heap.size w8 w' ∧ w'.cell? ⟨bp, 0, none⟩ = some (.int .i64 (f : Int)) ∧ w'.cell? ⟨bp, 1, none⟩ = some (.int .i64 (t : Int)) ∧ w'.cell? ⟨bn, 0, none⟩ = some (.int .i64 (nn : Int)) ∧ w'.cell? ⟨bn, 1, none⟩ = some (.slice a6 el c6))) (t := 14) (by kernel_rfl) ?_ (fun hHeld hInv => ?_)
                · exact key.out _ (below_drew _)
                replace hInv := hide hInv
                refine planE [0, 1, 2, 3, 4, 5, 6, 8] ?_
                iterate 8
                  refine PlanE.take (v := ?_) (List.getElem?_toArray.trans rfl) (by kernel_rfl) (fun _ _ _ h => h) (Or.inl ⟨by rfl, ?_⟩) hInv.out (by assumption) (fun hInv' => ?_)
                  rotate_left
                  · intro w hSw; (try dsimp only at hSw); go_simp; (try with_reducible rfl)
                  replace hInv := hide hInv'; clear hInv'; try simp only [Act.put, List.setIfInBounds_toArray, List.set_cons_zero, List.set_cons_succ]
                refine wpAnyE_one (i := 7) (List.getElem?_toArray.trans rfl) (by kernel_rfl) (fun K hK => ?_) hInv.out
                (go_simp)
                have hHeld := key.out _ (up_alloc (o := .cells (zeros nn) 3) (below_drew w8) (Nat.le_refl _))
                refine hK.out _ _ (fun _ => hHeld) (fun hInv' => ?_)
                clear hK K; replace hInv := hide (hInv' (by decide)); clear hInv'; try simp only [Act.put, List.setIfInBounds_toArray, List.set_cons_zero, List.set_cons_succ]
                refine wpAnyE_one (i := 9) (List.getElem?_toArray.trans rfl) (by kernel_rfl) (fun K hK => ?_) hInv.out
                (go_simp; refine (hRun2.out _ (hb78.out.trans (hHeld.1.mono hb78.out.size)) _ nn (own_row (own_zeros _ _ nn (Nat.le_refl _) (by have := hnn4.out; omega)))).mono ?_; rintro e w9 ⟨g9, c9, p9, q9, rfl, hb9, zg9, d0, d1, d2, d3, d4, hrow9⟩; have hb10 := below_step hHeld.1 hb9)
                have hHeld := key.out _ hb10
                refine hK.out _ _ (fun _ => hHeld) (fun hInv' => ?_)
                clear hK K; replace hInv := hide (hInv' (by decide)); clear hInv'; try simp only [Act.put, List.setIfInBounds_toArray, List.set_cons_zero, List.set_cons_succ]
                refine planE [10, 11, 12, 13] ?_
                iterate 4
                  refine PlanE.take (v := ?_) (List.getElem?_toArray.trans rfl) (by kernel_rfl) (fun _ _ _ h => h) (Or.inl ⟨by rfl, ?_⟩) hInv.out (by assumption) (fun hInv' => ?_)
                  rotate_left
                  · intro w hSw; (try dsimp only at hSw); go_simp; (try with_reducible rfl)
                  replace hInv := hide hInv'; clear hInv'; try simp only [Act.put, List.setIfInBounds_toArray, List.set_cons_zero, List.set_cons_succ]
                refine wpAnyE_one (i := 14) (List.getElem?_toArray.trans rfl) (by kernel_rfl) (fun K hK => ?_) hInv.out
                (try dsimp only at hHeld); go_simp
                refine hK.out _ _ (fun h => absurd rfl h) (fun _ => ?_)
                clear hK K hInv; try simp only [Act.put, List.setIfInBounds_toArray, List.set_cons_zero, List.set_cons_succ]
                refine wpAnyE_done (by kernel_rfl) ?_ _
                rw [hu.out, Nat.add_sub_cancel] at d0 d1 d2 d3 d4
                have hbr9 := hide (below_step hb8h.out hb10)
                have hP9 := hide (hPoll.out w9 hbr9.out)
                have hrow9 := hide hrow9
                clear key hb9 hHeld hb10 hRun2 hmk
                go_wp2_with fail
                refine hP9.out.mono ?_
                rintro e w10 ⟨p1, c11, rfl, hr1, hb11⟩
                have d0 := cu_below hb11 d0 zg9
                have d1 := cu_below hb11 d1 zg9
                have d2 := cu_below hb11 d2 zg9
                have d3 := cu_below hb11 d3 zg9
                have d4 := cu_below hb11 d4 zg9
                have zg10 : g9 < w10.heap.size := cell_lt d0
                obtain ⟨G2, hG2⟩ : ∃ G, G = w10.alloc (.cells #[.int .i64 4, .int .i64 r.wa, .int .i64 r.wb, .slice p1 r.path.length c11, .int .i64 r.cost, .int .i64 (r.done : Int)] 55) := ⟨_, rfl⟩
                have hbG : Below w10.heap.size w10 G2 := by rw [hG2]; exact up_alloc (Below.refl _ _) (Nat.le_refl _)
                obtain ⟨bq, hbq⟩ : ∃ b, b = w10.heap.size := ⟨_, rfl⟩
                have q0 : G2.cell? ⟨bq, 0, none⟩ = some (.int .i64 4) := by rw [hG2, hbq]; simp [go_sem]
                have q1 : G2.cell? ⟨bq, 1, none⟩ = some (.int .i64 r.wa) := by rw [hG2, hbq]; simp [go_sem]
                have q2 : G2.cell? ⟨bq, 2, none⟩ = some (.int .i64 r.wb) := by rw [hG2, hbq]; simp [go_sem]
                have q3 : G2.cell? ⟨bq, 3, none⟩ = some (.slice p1 r.path.length c11) := by rw [hG2, hbq]; simp [go_sem]
                have q4 : G2.cell? ⟨bq, 4, none⟩ = some (.int .i64 r.cost) := by rw [hG2, hbq]; simp [go_sem]
                have q5 : G2.cell? ⟨bq, 5, none⟩ = some (.int .i64 (r.done : Int)) := by rw [hG2, hbq]; simp [go_sem]
                have zq : bq < G2.heap.size := cell_lt q0
                have d0 := cu_below hbG d0 zg10
                have d1 := cu_below hbG d1 zg10
                have d2 := cu_below hbG d2 zg10
                have d3 := cu_below hbG d3 zg10
                have d4 := cu_below hbG d4 zg10
                have zgG : g9 < G2.heap.size := cell_lt d0
                have rowA := (((hrow9.out.below hb11 (Nat.le_refl _)).mono hb11.size).below hbG (Nat.le_refl _)).mono hbG.size
                have rowB := (hr1.below hbG (Nat.le_refl _)).mono hbG.size
                have hSame := hide (fun (w' : World) (hb : Below G2.heap.size G2 w') => sameround_any r.wa r.wb r.cost (r.done : Int) p1 p9 r.path.length c11 q9 r.path w' rfl ((rowB.below hb (Nat.le_refl _)).mono hb.size) ((rowA.below hb (Nat.le_refl _)).mono hb.size) (by omega))
                have hbrG := hide (below_step (below_step hbr9.out hb11) hbG)
                have key2 := hide (show ∀ w', Below G2.heap.size G2 w' → (fun w' => Below G2.heap.size G2 w' ∧ w'.cell? ⟨bq, 0, none⟩ = some (.int .i64 4) ∧ w'.cell? ⟨bq, 1, none⟩ = some (.int .i64 r.wa) ∧ w'.cell? ⟨bq, 2, none⟩ = some (.int .i64 r.wb) ∧ w'.cell? ⟨bq, 3, none⟩ = some (.slice p1 r.path.length c11) ∧ w'.cell? ⟨bq, 4, none⟩ = some (.int .i64 r.cost) ∧ w'.cell? ⟨bq, 5, none⟩ = some (.int .i64 (r.done : Int)) ∧ w'.cell? ⟨g9, u * 5, none⟩ = some (.int .i64 r.wa) ∧ w'.cell? ⟨g9, u * 5 + 1, none⟩ = some (.int .i64 r.wb) ∧ w'.cell? ⟨g9, u * 5 + 2, none⟩ = some (.slice p9 r.path.length q9) ∧ w'.cell? ⟨g9, u * 5 + 3, none⟩ = some (.int .i64 r.cost) ∧ w'.cell? ⟨g9, u * 5 + 4, none⟩ = some (.int .i64 (r.done : Int))) w' from fun w' hb => ⟨hb, cu_below hb q0 zq, cu_below hb q1 zq, cu_below hb q2 zq, cu_below hb q3 zq, cu_below hb q4 zq, cu_below hb q5 zq, cu_below hb d0 zgG, cu_below hb d1 zgG, cu_below hb d2 zgG, cu_below hb d3 zgG, cu_below hb d4 zgG⟩)
                clear hb11 hbG hr1 rowA rowB hrow9 hP9 q0 q1 q2 q3 q4 q5 d0 d1 d2 d3 d4
                go_upto_region 29 with fail
                simp only [← hG2, ← hbq]
                replace hG2 := hide hG2
                replace hbq := hide hbq
                refine wp_region_end (S := (fun w' => Below G2.heap.size G2 w' ∧ w'.cell? ⟨bq, 0, none⟩ = some (.int .i64 4) ∧ w'.cell? ⟨bq, 1, none⟩ = some (.int .i64 r.wa) ∧ w'.cell? ⟨bq, 2, none⟩ = some (.int .i64 r.wb) ∧ w'.cell? ⟨bq, 3, none⟩ = some (.slice p1 r.path.length c11) ∧ w'.cell? ⟨bq, 4, none⟩ = some (.int .i64 r.cost) ∧ w'.cell? ⟨bq, 5, none⟩ = some (.int .i64 (r.done : Int)) ∧ w'.cell? ⟨g9, u * 5, none⟩ = some (.int .i64 r.wa) ∧ w'.cell? ⟨g9, u * 5 + 1, none⟩ = some (.int .i64 r.wb) ∧ w'.cell? ⟨g9, u * 5 + 2, none⟩ = some (.slice p9 r.path.length q9) ∧ w'.cell? ⟨g9, u * 5 + 3, none⟩ = some (.int .i64 r.cost) ∧ w'.cell? ⟨g9, u * 5 + 4, none⟩ = some (.int .i64 (r.done : Int)))) (t := 27) (by kernel_rfl) ?_ (fun hHeld hInv => ?_)
                · exact key2.out _ (below_drew _)
                replace hInv := hide hInv
                refine planE [0, 1, 2, 3, 4, 5, 6, 7, 8, 9, 10, 11, 12, 13, 14, 15, 16, 17, 18, 19, 20, 21, 22, 23, 24] ?_
                iterate 25
                  refine PlanE.take (v := ?_) (List.getElem?_toArray.trans rfl) (by kernel_rfl) (fun _ _ _ h => h) (Or.inl ⟨by rfl, ?_⟩) hInv.out (by assumption) (fun hInv' => ?_)
                  rotate_left
                  · intro w hSw; (try dsimp only at hSw); go_simp; (try with_reducible rfl)
                  replace hInv := hide hInv'; clear hInv'; try simp only [Act.put, List.setIfInBounds_toArray, List.set_cons_zero, List.set_cons_succ]
                refine wpAnyE_one (i := 25) (List.getElem?_toArray.trans rfl) (by kernel_rfl) (fun K hK => ?_) hInv.out
                (go_simp; refine (hSame.out _ hHeld.1).mono ?_; rintro e w12 ⟨rfl, hb12⟩; have hb13 := below_step hHeld.1 hb12)
                have hHeld := key2.out _ hb13
                refine hK.out _ _ (fun _ => hHeld) (fun hInv' => ?_)
                clear hK K; replace hInv := hide (hInv' (by decide)); clear hInv'; try simp only [Act.put, List.setIfInBounds_toArray, List.set_cons_zero, List.set_cons_succ]
                refine planE [26] ?_
                iterate 1
                  refine PlanE.take (v := ?_) (List.getElem?_toArray.trans rfl) (by kernel_rfl) (fun _ _ _ h => h) (Or.inl ⟨by rfl, ?_⟩) hInv.out (by assumption) (fun hInv' => ?_)
                  rotate_left
                  · intro w hSw; (try dsimp only at hSw); go_simp; (try with_reducible rfl)
                  replace hInv := hide hInv'; clear hInv'; try simp only [Act.put, List.setIfInBounds_toArray, List.set_cons_zero, List.set_cons_succ]
                refine wpAnyE_one (i := 27) (List.getElem?_toArray.trans rfl) (by kernel_rfl) (fun K hK => ?_) hInv.out
                (try dsimp only at hHeld); go_simp
                refine hK.out _ _ (fun h => absurd rfl h) (fun _ => ?_)
                clear hK K hInv; try simp only [Act.put, List.setIfInBounds_toArray, List.set_cons_zero, List.set_cons_succ]
                refine wpAnyE_done (by kernel_rfl) ?_ _
                have hfin := hide (hbr.out.trans ((below_step hbrG.out hb13).mono z7))
                clear hHeld key2 hb13 hb12 hSame
                go_wp2
                go_roundw
                case rel => exact ⟨k3 + 1, by omega, by first | rfl | rw [hwk.out], by first | exact hfin | exact hide (below_step hfin.out (below_drew _))⟩
                case measure => simp [intOf]; omega
              · obtain rfl : k3 = n := by omega
                have hfin := hide (hT7.out.b.trans (hbr.out.mono hT7.out.b.size))
                go_wp2
                go_ret
                exact ⟨rfl, by first | exact hfin.out | exact below_step hfin.out (below_drew _)⟩
  · have hNew := hide (fun (w' : World) (hb : Below w.heap.size w w') => snew_bad x0 y0 a0 cap0 cs0 w' w.heap.size hb.size (r0.below hb (Nat.le_refl _)) hcs h0)
    obtain ⟨er, her⟩ : ∃ x, x = gridErr x0 y0 cs0 := ⟨_, rfl⟩
    rw [← her] at hNew h0
    have q2 : (er != 0) = true := by simp [h0]
    replace her := hide her
    clear r0 r1 b1 r2 r3 n1 n2 n3 l0 m0 be0 l1 l2 l3 b0 c0 b2 b3 hcs
    go_enter Try.func3, Try.ntmps3
    go_upto_region 1 with fail
    simp only [← hG0]
    replace hG0 := hide hG0
    go_wp2_with fail
    refine (hNew.out _ hb00.out).mono ?_
    rintro e w1 ⟨rfl, hb1⟩
    have hB1 := hide (below_step hb00.out hb1)
    clear hb1 e0 e1 e2
    go_wp2_with fail
    refine (hBg.out _).mono ?_
    rintro e w2 ⟨rfl, hb2⟩
    have hB2 := hide (below_step hB1.out hb2)
    clear hb2
    go_wp2_with fail
    refine (hBg.out _).mono ?_
    rintro e w3 ⟨rfl, hb3⟩
    have hB3 := hide (below_step hB2.out hb3)
    clear hb3
    go_wp2
    go_ret
    exact ⟨rfl, hB3.out⟩
end Go.Proofs.Ytccailcjclbhlaa
/-! For the statements with a bound on what is read: how many elements an argument has at most. No conditions. -/
namespace Go.Proofs.Ytccailcjclbhlaa
open Go.ChangeShapes Go.WideShapes Go.ChangeAt Go.RowKit Go.Deep
set_option linter.unusedSimpArgs false
set_option linter.unusedVariables false
theorem bulk_pos {H : Type} (d : DataW H) : 1 ≤ Rows.uptoBulk d := by
  cases d with
  | lit l => cases l <;> simp only [Rows.uptoBulk] <;> omega
  | _ => simp only [Rows.uptoBulk] <;> omega
section
variable {P : Program} {H : Type} {enc : TypeId × Value → H} {W : World} {base : Nat} {spare : Nat → Bool} {held : Bool}
theorem bulk_sum' {D : Nat → DataW H} {m : Nat} (h : ∀ i, i < m → 2 ≤ Rows.uptoBulk (D i)) : ∀ k, k ≤ m → 2 * k ≤ Rows.uptoBulkAll ((List.range k).map D) := by
  have app : ∀ (a b : List (DataW H)), Rows.uptoBulkAll (a ++ b) = Rows.uptoBulkAll a + Rows.uptoBulkAll b := by
    intro a b
    induction a with
    | nil => simp [Rows.uptoBulkAll]
    | cons x r ih => simp only [List.cons_append, Rows.uptoBulkAll, ih]; omega
  intro k
  induction k with
  | zero => intro _; simp
  | succ k ih =>
    intro hk
    have h1 := ih (by omega)
    have h2 := h k (by omega)
    rw [List.range_succ, List.map_append, app]
    simp only [List.map_cons, List.map_nil, Rows.uptoBulkAll]
    omega
/-- a slice of pairs: two for each -/
theorem pairs_bulk {t e : TypeId} {f0 f1 : Field} {a : Option Addr} {len cap n : Nat} {y : DataW H × List MemPlace} (ht : P.underlying t = some (.slice e)) (he : P.underlying e = some (.struct #[f0, f1])) (h : DataW.trod enc P W base spare held n t [.slice a len cap] = some y) : 2 * len ≤ Rows.uptoBulk y.1 := by
  rcases open_slice ht h with ⟨hcs, _⟩ | ⟨a', len', cap', m, k, D, Pl, hcs, _, hl, hm, hmm, rfl, hx⟩
  · simp only [List.cons.injEq, Value.slice.injEq, and_true] at hcs
    omega
  · simp only [List.cons.injEq, Value.slice.injEq, and_true] at hcs
    have hle : len' ≤ m := by rw [hmm]; split <;> omega
    have := bulk_sum' (D := D) (m := m) (fun i hi => by
      obtain ⟨cs', _, h2⟩ := hx i hi
      obtain ⟨y0, y1, _, h3, _⟩ := trod_struct2 he h2
      have h4 := congrArg Prod.fst h3
      simp only at h4
      rw [h4]
      have b0 := bulk_pos y0.1
      simp only [Rows.uptoBulk, Rows.uptoBulkAll]
      omega) len' hle
    simp only [Rows.uptoBulk]
    omega
end
end Go.Proofs.Ytccailcjclbhlaa
namespace Go.Proofs.Ytccailcjclbhlaa
open Go.ChangeShapes Go.WideShapes Go.ChangeAt Go.RowKit
set_option linter.unusedSimpArgs false
set_option linter.unusedVariables false

set_option maxRecDepth 100000 in
theorem contract_TopService (H : Type) (enc : TypeId × Value → H) (W : World) (base : Nat) (args : Array Value) (ds gs : List (DataW H)) (before : List MemPlace)
    (hval0 : ∀ (j : Nat) t v, Try.f3.params[j]? = some t → args[j]? = some v → Value.okWide Try.prog W .any base t v)
    (hW : DataW.Whole enc Try.prog Try.f3.params.toList Rows.topServiceSpec.vars false W args.toList ds gs before) (hk : Rows.uptoSmall H (ds ++ gs) = true) :
    Calls Try.prog 3 args W fun e W' => ∃ v, e = .returned v ∧ Rows.topServiceSpec.post enc Try.prog Try.f3 false true false false W args v W' := by
  have hval : ∀ (j : Nat) t v, Try.f3.params[j]? = some t → args[j]? = some v → Value.okWide Try.prog W .any base t v := hval0
  have hW' := hW
  obtain ⟨p, q, hA0, hV, rfl, hfz, hnd⟩ := hW
  have hA : DataW.TrodAll enc Try.prog W 0 (fun _ => true) true Try.f3.params.toList args.toList ds p := hA0
  rw [Try.params3] at hA hval
  obtain ⟨v0, vs0, d0, ds0, p0, q0, hargs, rfl, rfl, h0, tr0⟩ := trodAll_cons hA
  obtain ⟨v1, vs1, d1, ds1, p1, q1, rfl, rfl, rfl, h1, tr1⟩ := trodAll_cons tr0
  obtain ⟨v2, vs2, d2, ds2, p2, q2, rfl, rfl, rfl, h2, tr2⟩ := trodAll_cons tr1
  obtain ⟨v3, vs3, d3, ds3, p3, q3, rfl, rfl, rfl, h3, tr3⟩ := trodAll_cons tr2
  obtain ⟨rfl, rfl, rfl⟩ := trodAll_nil tr3
  obtain rfl : args = #[v0, v1, v2, v3] := by cases args; simp_all
  obtain ⟨rfl, rfl⟩ := trodVars_none hV
  simp only [List.append_nil] at hk
  have hbk : Rows.uptoBulkAll [d0, d1, d2, d3] ≤ 1048576 := of_decide_eq_true hk
  simp only [Rows.uptoBulkAll] at hbk
  have k0 := h0
  have lt0 : ∀ x ∈ p0, x.block < W.heap.size := by obtain ⟨m, hm⟩ := k0; exact DataW.trod_lt m _ _ _ hm
  have k1 := h1
  have lt1 : ∀ x ∈ p1, x.block < W.heap.size := by obtain ⟨m, hm⟩ := k1; exact DataW.trod_lt m _ _ _ hm
  have k2 := h2
  have lt2 : ∀ x ∈ p2, x.block < W.heap.size := by obtain ⟨m, hm⟩ := k2; exact DataW.trod_lt m _ _ _ hm
  have k3 := h3
  have lt3 : ∀ x ∈ p3, x.block < W.heap.size := by obtain ⟨m, hm⟩ := k3; exact DataW.trod_lt m _ _ _ hm
  obtain ⟨x0, y0, a0, cap0, cs0, rfl, b0, c0, l0, m0, r0, be0⟩ := openT_grid (P := Try.prog) Try.underlying24 (by kernel_rfl) (by kernel_rfl) Try.underlying3 Try.underlying3 Try.underlying22 (by kernel_rfl) Try.underlying3 (hval 0 24 v0 rfl rfl) h0
  obtain ⟨a1, cap1, x1, rfl, l1, m1, r1, b1⟩ := openT_p2s Try.underlying25 (by kernel_rfl) Try.underlying33 (by kernel_rfl) Try.underlying3 Try.underlying3 (hval 1 25 v1 rfl rfl) h1
  obtain ⟨a2, cap2, x2, rfl, l2, m2, r2, b2⟩ := openT_p2s Try.underlying25 (by kernel_rfl) Try.underlying33 (by kernel_rfl) Try.underlying3 Try.underlying3 (hval 2 25 v2 rfl rfl) h2
  obtain ⟨a3, cap3, x3, rfl, l3, m3, r3, b3⟩ := openT_p2s Try.underlying26 (by kernel_rfl) Try.underlying49 (by kernel_rfl) Try.underlying3 Try.underlying3 (hval 3 26 v3 rfl rfl) h3
  have n1 : x1.length ≤ 524288 := by obtain ⟨_, hm⟩ := k1; have hq : 2 * x1.length ≤ Rows.uptoBulk d1 := pairs_bulk (P := Try.prog) Try.underlying25 Try.underlying33 (by simpa [Value.cells] using hm); omega
  have n2 : x2.length ≤ 524288 := by obtain ⟨_, hm⟩ := k2; have hq : 2 * x2.length ≤ Rows.uptoBulk d2 := pairs_bulk (P := Try.prog) Try.underlying25 Try.underlying33 (by simpa [Value.cells] using hm); omega
  have n3 : x3.length ≤ 524288 := by obtain ⟨_, hm⟩ := k3; have hq : 2 * x3.length ≤ Rows.uptoBulk d3 := pairs_bulk (P := Try.prog) Try.underlying26 Try.underlying49 (by simpa [Value.cells] using hm); omega
  clear hA0 hval0
  refine (walk_TopService x0 y0 a0 cap0 cs0 a1 cap1 x1 a2 cap2 x2 a3 cap3 x3 W b0 c0 l0 m0 r0 be0 l1 m1 r1 b1 l2 m2 r2 b2 l3 m3 r3 b3 n1 n2 n3).mono fun e W' ⟨he, bel⟩ => ?_
  subst he
  exact ⟨_, rfl, _, _, _, [], _, [], hW', trodAll_mk1 (shut_bool Try.underlying4 _), (trodAll_cons_mk (Below.trod laidOut (by kernel_rfl) (of_decide_eq_true (by kernel_rfl)) k0 bel lt0) (trodAll_cons_mk (Below.trod laidOut (by kernel_rfl) (of_decide_eq_true (by kernel_rfl)) k1 bel lt1) (trodAll_cons_mk (Below.trod laidOut (by kernel_rfl) (of_decide_eq_true (by kernel_rfl)) k2 bel lt2) (trodAll_cons_mk (Below.trod laidOut (by kernel_rfl) (of_decide_eq_true (by kernel_rfl)) k3 bel lt3) trodAll_mk0)))), rfl, bel.frame _, fun h => by cases h⟩

set_option maxRecDepth 100000 in
theorem lifted_TopService (os : Os) (started : os.Started) (H : Type) (enc : TypeId × Value → H) (F : Stop.Interp) :
    ReturnsInHanded {} Try.checked os 3 .any ((Rows.OpenSpec.upto Rows.topServiceSpec).pre6 enc Try.prog Try.f3 Rows.topServiceUptoRow.domain false) (((Rows.OpenSpec.upto Rows.topServiceSpec).at F).post enc Try.prog Try.f3 false true false false) := by
  refine returnsInHanded_of_cond (C := Try.checked) (s := Rows.OpenSpec.upto Rows.topServiceSpec) (k := Rows.uptoSmall) rfl own started (by kernel_rfl) Try.func3
    (OpenSpec.witness (enc := enc) (C := Try.checked) (s := Rows.OpenSpec.upto Rows.topServiceSpec) (k := Rows.uptoSmall) rfl false ⟨#[], #[.agg #[.int .i64 0, .int .i64 0, .slice none 0 0], .slice none 0 0, .slice none 0 0, .slice none 0 0], []⟩ 8 (by kernel_rfl) (by kernel_rfl) (by kernel_rfl)
      (x := ([.agg [.lit (.int .i64 0), .lit (.int .i64 0), .nil], .nil, .nil, .nil], [], [])) (by kernel_rfl) rfl (by kernel_rfl)) ?_
  intro W base args ds gs before hval hW _ hk _
  exact contract_TopService H enc W base args ds gs before hval hW hk

/-- The given statement. -/
theorem proved_TopServiceUpto : Rows.TopServiceUptoSaid :=
  OpenClaim.holds_of_cond 3 Try.f3 rfl rfl rfl rfl rfl rfl rfl ⟨rfl, rfl, rfl, rfl, rfl⟩ rfl rfl rfl rfl rfl (by kernel_rfl) Try.func3 (by kernel_rfl)
    (of_decide_eq_true (by kernel_rfl)) (by unfold Func.isWrapper; first | (rw [if_pos (by decide +kernel)]; kernel_rfl) | (rw [if_neg (by decide +kernel)]; exact ⟨rfl, rfl⟩))
    (fun os started H enc _ F => lifted_TopService os started H enc F)
#print axioms proved_TopServiceUpto

end Go.Proofs.Ytccailcjclbhlaa
