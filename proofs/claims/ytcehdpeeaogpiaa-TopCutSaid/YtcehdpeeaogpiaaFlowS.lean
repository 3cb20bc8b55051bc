/-
  What flow.seek returns. Conditions: a right net, bounds on what flows.
-/
import Derived.Test.YtcehdpeeaogpiaaFlowX
import Derived.BigQuiet
import Derived.BigRegion
import Derived.Deep.QuietTactic
import Derived.Deep.LoopGhost
import Derived.Deep.DeepCutAuto
namespace Go.Proofs.Ytcehdpeeaogpiaa
open Go.RowKit
set_option linter.unusedSimpArgs false
set_option linter.unusedVariables false
set_option maxRecDepth 100000 in
set_option maxHeartbeats 8000000 in
theorem seek_any (n s : Nat) (a af : Option Addr) (cap cf : Nat) (es : List Ed) (fl : Nat → Int) (w : World) (B : Nat) (hB : B ≤ w.heap.size) (hE : Row encE 3 w B a es) (hF : Row encI 1 w B af (LI es.length fl)) (hn : n ≤ 64) (hl : es.length ≤ 600) (hes : Right n es) (hs : s < n) :
    Calls Try.prog 165 #[.agg #[.int .i64 (n : Int), .slice a es.length cap], .slice af es.length cf, .int .i64 (s : Int)] w fun e w' => ∃ g b, e = .returned (.slice (some ⟨g, 0, none⟩) n n) ∧ Own encI 1 3 w' w.heap.size (.slice (some ⟨g, 0, none⟩) n n) (LI n b) ∧ SeekAns fl (nes es) n s b ∧ Below w.heap.size w w' := by
  replace hE := hide hE
  replace hF := hide hF
  replace hes := hide hes
  have is : (0 : Int) ≤ (s : Int) ∧ (s : Int) < (n : Int) := by omega
  obtain ⟨m, hm⟩ : ∃ m, m = es.length := ⟨_, rfl⟩
  rw [← hm] at hl hF ⊢
  have hm1 : IntKind.i64.wrap ((m : Int) + 1) = (m : Int) + 1 := IntWalk.i64_in _ (by omega)
  replace hm := hide hm
  go_enter Try.func165, Try.ntmps165
  go_wp2_with (at_make; (refine wpList_mk (e := 3) (enc := encI) rfl (.tmp 19) 29 rfl (.int .i64 0) 8 (0 : Int) Try.underlying29 info_int rfl rfl (n) ?e11 ?e21 ?e31 (w.heap.size) ?e41 ?_); (case e11 => rfl); (case e21 => omega); (case e31 => unfold maxLen; omega); (case e41 => first | omega | (simp; done) | (simp; omega)); intro w1 own1 hb1 hsz1; have hK1 := hide (kb_start own1 hb1); clear hsz1; replace own1 := hide own1; replace hb1 := hide hb1)
  clear own1 hb1
  go_loopw [23] (fun i wr => ∃ k : Nat, k ≤ n ∧ i = .int .i64 (k : Int) ∧ Hid (KB w n m a cap (w.heap.size + 1) (first k (fun _ => (m : Int)) (fun _ => 0)) wr)) (fun i _ => n - (intOf i).toNat)
  case atStart => exact ⟨0, Nat.zero_le _, rfl, by rw [first_zero]; exact hK1⟩
  case round =>
    clear hK1
    obtain ⟨k, hk, rfl, hK⟩ := hrel
    by_cases hlt : k < n
    · have kc := hK.out.bo.atI k hlt
      have fc := hK.out.bo.free k
      have zc := cell_lt kc
      have hK2 := hK.out.set k hlt (m : Int)
      rw [first_step k (fun _ => (m : Int)) (fun _ => 0)] at hK2
      replace hK2 := hide hK2
      have ik : (0 : Int) ≤ (k : Int) ∧ (k : Int) < (n : Int) := by omega
      generalize (first k (fun _ => (m : Int)) (fun _ => 0)) k = y1 at kc
      go_wp2
      go_roundw
      case rel => exact ⟨k + 1, by omega, by go_num, hK2⟩
      case measure => simp [intOf]; omega
    · obtain rfl : n = k := by omega
      have hKs := hide (hK.out.recost (first_all n (fun _ => (m : Int)) (fun _ => 0)))
      have c0 := hKs.out.c0
      have zw := cell_lt c0
      obtain ⟨wo, hwo⟩ : ∃ wo : World, wo = wr := ⟨_, rfl⟩
      simp only [← hwo] at hKs c0 zw ⊢
      clear hK hwo
      go_wp2_with (at_make; (refine wpList_mk (e := 4) (enc := encB) rfl (.tmp 32) 52 rfl (.bool false) 1 false Try.underlying52 info_bool rfl rfl (n) ?e12 ?e22 ?e32 ((w.heap.size + 1)) ?e42 ?_); (case e12 => rfl); (case e22 => omega); (case e32 => unfold maxLen; omega); (case e42 => first | omega | (simp; done) | (simp; omega)); intro w2 own2 hb2 hsz2; have hX2 : Hid (KX w n m a cap (w.heap.size + 1) wo.heap.size (fun _ => (m : Int)) (fun _ => false) w2) := hide ⟨hKs.out.stays hb2, by rw [← rw_rep']; exact own2, by have := hKs.out.lt; omega⟩; have d0 := hX2.out.so.atRB s hs; have q0 := hX2.out.so.free s; have hz2 := cell_lt d0; have hX3 := hide ((hX2.out.setS s hs true).seen (inL_one s)); replace own2 := hide own2; replace hb2 := hide hb2; clear hsz2)
      have hq0 := hide (QOwn.of_own (own_first (w2.setCell ⟨wo.heap.size, s, none⟩ (.bool true)) w2.heap.size 3 (s : Int) (by simp)))
      have hX4 := hide (hX3.out.stays ((Below.refl _ _).alloc (Nat.le_refl _) (.cells #[.int .i64 (s : Int)] 3)))
      have hT0 := hide (show QT fl (nes es) n s (fun _ => (m : Int)) ([] ++ [s]) by have := qt_start fl (nes es) hs; rw [nes_len, ← hm.out] at this; exact this)
      have hzz : wo.heap.size < w2.heap.size := hz2
      obtain ⟨gs, hgs⟩ : ∃ gs, gs = wo.heap.size := ⟨_, rfl⟩
      obtain ⟨gb, hgb⟩ : ∃ gb, gb = w.heap.size + 1 := ⟨_, rfl⟩
      rw [← hgb, ← hgs] at hX4
      have hsz0 : (w2.setCell ⟨wo.heap.size, s, none⟩ (.bool true)).heap.size = w2.heap.size := by simp
      rw [hsz0, ← hgs] at hq0
      clear hsz0
      simp only [← hgs]
      simp only [← hgb]
      have hgl : w.heap.size < gb ∧ gb ≠ gs ∧ gb < w2.heap.size ∧ gs < w2.heap.size := by have := hX4.out.lt; have := hX4.out.ne; have := hX2.out.lt; omega
      replace hgs := hide hgs
      replace hgb := hide hgb
      clear hX2 hX3 d0 q0 own2 hz2 hzz hKs
      go_loopg [11] (n + 1) (fun gk s11 wr => ∃ (by_ : Nat → Int) (D R : List Nat) (g off K c2 : Nat), s11 = .slice (some ⟨g, off, none⟩) K c2 ∧ Hid (K = R.length) ∧ Hid (QOwn 3 wr w2.heap.size g off K c2 (QL R)) ∧ Hid (KX w n m a cap gb gs by_ (inL (D ++ R)) wr) ∧ Hid (QT fl (nes es) n s by_ (D ++ R)) ∧ Hid (∀ x ∈ D, QC fl (nes es) (D ++ R) x (nes es).length) ∧ D.length + gk = n + 1)
      case atStart => exact ⟨_, [], [s], _, _, 1, 1, rfl, hide rfl, hq0, hX4, hT0, hide (fun x hx => by cases hx), by simp⟩
      case round =>
        clear hX4 hq0 hT0
        obtain ⟨by_, D, R, g, off, K, c2, rfl, hK, hq, hX, hT, hD, hgk⟩ := hrel
        cases R with
        | nil =>
          have hK0 : K = 0 := hK.out
          subst hK0
          have dB := hX.out.kb.bo.atI s hs
          have fB := hX.out.kb.bo.free s
          have zB := cell_lt dB
          have hXe := hide (hX.out.setB s hs ((m : Int) + 1))
          have hml : m = (nes es).length := by rw [nes_len]; exact hm.out
          replace hml := hide hml
          generalize by_ s = y1 at dB
          go_wp2
          go_ret
          refine ⟨gb, rfl, _, hXe.out.kb.bo.base_le (by omega), ⟨by_, D, ?_, ?_, by rw [← hml.out]⟩, hXe.out.kb.bel⟩
          · have := hT.out; rwa [List.append_nil] at this
          · have := hD.out; simp only [List.append_nil] at this; exact this
        | cons v R0 =>
          have hK1 := hK.out
          obtain ⟨K1, rfl⟩ : ∃ K1, K = K1 + 1 := ⟨R0.length, by simpa using hK1⟩
          have hvn : v < n := hT.out.lt v (by simp)
          have hDn : D.length + (K1 + 1) ≤ n := by have := hT.out.count; simp at this; have := hK.out; simp at this; omega
          have hh := hq.out.head
          have hzg := hq.out.lt
          have hgb2 : w2.heap.size ≤ g := hq.out.2.1
          have c1 := hX.out.kb.c1
          have zc1 := cell_lt c1
          have hKp : (0 : Int) < ((K1 + 1 : Nat) : Int) := by omega
          obtain ⟨gout, rfl⟩ : ∃ x, x = gk := ⟨_, rfl⟩
          obtain ⟨wi, hwi⟩ : ∃ wi : World, wi = wr := ⟨_, rfl⟩
          simp only [← hwi] at hh hzg c1 zc1 hq hX ⊢
          clear hwi
          have hS0 := hide (show SK fl (nes es) n s by_ D v R0 0 from ⟨hT.out, hD.out, qc_zero _ _ _ _⟩)
          clear hT hD hK1
          go_wp2
          go_loopg [11, 50] m (fun gj s11 s50 wr => ∃ (by_ : Nat → Int) (R : List Nat) (g off K c2 j : Nat), s11 = .slice (some ⟨g, off, none⟩) K c2 ∧ s50 = .int .i64 (j : Int) ∧ Hid (K = R.length + 1) ∧ Hid (QOwn 3 wr w2.heap.size g off K c2 (QL (v :: R))) ∧ Hid (KX w n m a cap gb gs by_ (inL (D ++ v :: R)) wr) ∧ Hid (SK fl (nes es) n s by_ D v R j) ∧ j + gj = m)
          case atStart => exact ⟨by_, R0, g, off, K1 + 1, c2, 0, rfl, rfl, hK, hq, hX, hS0, by omega⟩
          case round =>
            clear hX hq hS0 hK hh c1 zc1 hgb2 hzg hKp
            obtain ⟨by_, R, g, off, K, c2, j, rfl, rfl, hK, hq, hX, hS, hjg⟩ := hrel
            have hzg := hq.out.lt
            have hgb2 : w2.heap.size ≤ g := hq.out.2.1
            by_cases hlt : j < m
            · have hje : j < es.length := by rw [← hm.out]; exact hlt
              have hnes := hide (nes_get es j hje)
              obtain ⟨u, vv, e1', e2', e3, e4, e5, e6, -⟩ := right_edge hes.out j hje
              obtain ⟨b, o, rfl, hbB, m1, m2, m3⟩ := hE.out.ed j hje
              have hbl := hX.out.kb.bel
              have hbs := hbl.size
              rw [← hbl.cell (by simp; omega)] at m1 m2 m3
              rw [e1'] at m1
              rw [e2'] at m2
              obtain ⟨ec, hec⟩ : ∃ ec, ec = es[j].c := ⟨_, rfl⟩
              rw [← hec] at m3 e5 e6
              obtain ⟨b4, o4, rfl, hb4, f0⟩ := hF.out.atI j hlt
              rw [← hbl.cell (by simp; omega)] at f0
              obtain ⟨x, hx⟩ : ∃ x, x = fl j := ⟨_, rfl⟩
              rw [← hx] at f0
              have zb : b < wr.heap.size := by omega
              have zb4 : b4 < wr.heap.size := by omega
              have hgX := hX.out.lt
              have hn1 : (nes es)[j]? = some ⟨u, vv, ec⟩ := by rw [hnes.out, e1', e2', ← hec]; simp
              have ij : (0 : Int) ≤ (j : Int) ∧ (j : Int) < (m : Int) := by omega
              have iu : (0 : Int) ≤ (u : Int) ∧ (u : Int) < (n : Int) := by omega
              have ivv : (0 : Int) ≤ (vv : Int) ∧ (vv : Int) < (n : Int) := by omega
              have hwr : IntKind.i64.wrap (-1 - (j : Int)) = -1 - (j : Int) := IntWalk.i64_in _ (by omega)
              replace e1' := hide e1'
              replace e2' := hide e2'
              replace hec := hide hec
              replace hx := hide hx
              replace hn1 := hide hn1
              replace hbl := hide hbl
              clear hnes
              go_upto_region 17 with fail
              obtain ⟨w4, h4⟩ : ∃ w4, w4 = wr.alloc (.cells #[.int .i64 (u : Int), .int .i64 (vv : Int), .int .i64 ec] 34) := ⟨_, rfl⟩
              obtain ⟨be, hbe⟩ : ∃ be, be = wr.heap.size := ⟨_, rfl⟩
              have hX4 : Hid (EX w n m (some ⟨b, o, none⟩) cap gb gs be u vv ec w2.heap.size g off K c2 by_ (inL (D ++ v :: R)) (QL (v :: R)) w4) := hide (by
                rw [h4, hbe]
                exact ⟨hX.out.stays (up_alloc (Below.refl _ _) (Nat.le_refl _)), hq.out.alloc _, by simp [go_sem], by simp [go_sem], by simp [go_sem]⟩)
              have hbw4 := hide (show ∀ w', Below w4.heap.size w4 w' → w'.cell? ⟨b4, o4 + j, none⟩ = some (.int .i64 x) from fun w' hb => cu_below hb (by rw [h4]; exact cu_alloc f0) (by rw [h4]; simp; omega))
              have hge : gb ≠ be ∧ gs ≠ be ∧ g ≠ be ∧ g ≠ gb ∧ g ≠ gs ∧ w.heap.size < g ∧ be < w4.heap.size ∧ gb < be ∧ gs < be ∧ g < be := by rw [h4]; simp; omega
              simp only [← h4]
              simp only [← hbe]
              replace h4 := hide h4
              replace hbe := hide hbe
              clear m1 m2 m3 f0 hX hq hbl zb zb4
              obtain ⟨q, hqd⟩ : ∃ q, q = decide (u = v ∧ vv ∉ D ++ v :: R ∧ x < ec) := ⟨_, rfl⟩
              go_cut [75] (fun s75 wx => s75 = .bool q ∧ Hid (EX w n m (some ⟨b, o, none⟩) cap gb gs be u vv ec w2.heap.size g off K c2 by_ (inL (D ++ v :: R)) (QL (v :: R)) wx) ∧ Hid (wx.cell? ⟨b4, o4 + j, none⟩ = some (.int .i64 x)) ∧ be < wx.heap.size)
              case first =>
                have x0 := hX4.out.e0
                have x1 := hX4.out.e1
                have x2 := hX4.out.e2
                have xS := hX4.out.kx.so.atRB vv e4
                have xF := hbw4.out w4 (Below.refl _ _)
                have zs := cell_lt xS
                have zF := cell_lt xF
                simp only at zs zF
                have hdr := hide (fun k => ((up_drewN (n := k) (Below.refl w4.heap.size w4)) : Below w4.heap.size w4 (w4.drewN k)))
                by_cases huv : u = v
                · have q1 : ((u : Int) == (v : Int)) = true := by simp [huv]
                  by_cases hsn : vv ∈ D ++ v :: R
                  · rw [show inL (D ++ v :: R) vv = true by simp only [inL, hsn, decide_true]] at xS
                    have hqf : q = false := by rw [hqd]; simp [hsn]
                    subst hqf
                    replace hqd := hide hqd
                    replace huv := hide huv
                    replace hsn := hide hsn
                    go_wp2
                    go_quiet (fail)
                    go_wp2
                    go_meet
                    case rel => exact ⟨by first | rfl | simp [hlc], hide (hX4.out.stays (hdr.out nq)), hide (hbw4.out _ (hdr.out nq)), hge.2.2.2.2.2.2.1⟩
                  · rw [show inL (D ++ v :: R) vv = false by simp only [inL, hsn, decide_false]] at xS
                    by_cases hlc : x < ec
                    · have hqf : q = true := by rw [hqd]; simp [hsn, huv, hlc]
                      subst hqf
                      replace hqd := hide hqd
                      replace huv := hide huv
                      replace hsn := hide hsn
                      go_wp2
                      go_quiet (fail)
                      go_wp2
                      go_meet
                      case rel => exact ⟨by first | rfl | simp [hlc], hide (hX4.out.stays (hdr.out nq)), hide (hbw4.out _ (hdr.out nq)), hge.2.2.2.2.2.2.1⟩
                    · have hqf : q = false := by rw [hqd]; simp [hlc]
                      subst hqf
                      replace hqd := hide hqd
                      replace huv := hide huv
                      replace hsn := hide hsn
                      go_wp2
                      go_quiet (fail)
                      go_wp2
                      go_meet
                      case rel => exact ⟨by first | rfl | simp [hlc], hide (hX4.out.stays (hdr.out nq)), hide (hbw4.out _ (hdr.out nq)), hge.2.2.2.2.2.2.1⟩
                · have q1 : ((u : Int) == (v : Int)) = false := by simp; omega
                  have hqf : q = false := by rw [hqd]; simp [huv]
                  subst hqf
                  replace hqd := hide hqd
                  replace huv := hide huv
                  go_wp2
                  go_quiet (fail)
                  go_wp2
                  go_meet
                  case rel => exact ⟨by first | rfl | simp [hlc], hide (hX4.out.stays (hdr.out nq)), hide (hbw4.out _ (hdr.out nq)), hge.2.2.2.2.2.2.1⟩
              case rest =>
                clear hX4 hbw4
                obtain ⟨rfl, hX4, hF4, hbc⟩ := hcut
                go_upto_if 75 with fail
                go_cut [11] (fun s11 wx => ∃ (by2 : Nat → Int) (R2 : List Nat) (g2 off2 K2 c3 : Nat), s11 = .slice (some ⟨g2, off2, none⟩) K2 c3 ∧ Hid (K2 = R2.length + 1) ∧ Hid (EX w n m (some ⟨b, o, none⟩) cap gb gs be u vv ec w2.heap.size g2 off2 K2 c3 by2 (inL (D ++ v :: R2)) (QL (v :: R2)) wx) ∧ Hid (SK fl (nes es) n s by2 D v R2 j) ∧ Hid (u = v → x < ec → vv ∈ D ++ v :: R2) ∧ Hid (wx.cell? ⟨b4, o4 + j, none⟩ = some (.int .i64 x)) ∧ g2 ≠ be ∧ be < wx.heap.size)
                case first =>
                  cases q with
                  | false =>
                    go_wp2
                    go_meet
                    case rel => exact ⟨by_, R, g, off, K, c2, rfl, hK, hX4, hS, hide (fun h1 h2 => Classical.byContradiction fun h3 => by have h5 := hqd; simp only [h1, h2, h3, not_false_eq_true, and_self, decide_true] at h5; cases h5), hF4, hge.2.2.1, hbc⟩
                  | true =>
                    have hqq : u = v ∧ vv ∉ D ++ v :: R ∧ x < ec := by
                      have := hqd.symm
                      simpa using this
                    obtain ⟨huv, hnv, hxe⟩ := hqq
                    have x1 := hX4.out.e1
                    have dS := hX4.out.kx.so.atRB vv e4
                    have fS := hX4.out.kx.so.free vv
                    have dB := hX4.out.kx.kb.bo.atI vv e4
                    have fB := hX4.out.kx.kb.bo.free vv
                    have zS := cell_lt dS
                    have zB := cell_lt dB
                    simp only at zS zB
                    have hnn := hX4.out.q.lt
                    have hX5 := hide (hX4.out.both vv e4 (j : Int) hge.1.symm hge.2.1.symm hge.2.2.2.1 hge.2.2.2.2.1)
                    have hF5 := hide (cu_set (cu_set (q := ⟨gs, vv, none⟩) (u := .bool true) hF4.out (by simp; omega)) (q := ⟨gb, vv, none⟩) (u := .int .i64 (j : Int)) (by simp; omega))
                    have hpar := hide (show Par fl (nes es) (upz by_ vv (j : Int)) v vv from .inl ⟨j, _, hn1.out, upz_same _ _ _, huv, rfl, by rw [← hx.out]; exact hxe⟩)
                    generalize inL (D ++ v :: R) vv = y1 at dS
                    generalize by_ vv = y2 at dB
                    replace huv := hide huv
                    replace hnv := hide hnv
                    replace hxe := hide hxe
                    replace hqd := hide hqd
                    clear hF4
                    go_wp2
                    go_region
                    have hX6 := hide (hX5.out.stays (below_drew _))
                    have hF6 := hide (cu_drew hF5.out)
                    have hz6 : be < (((wc.setCell ⟨gs, vv, none⟩ (.bool true)).setCell ⟨gb, vv, none⟩ (.int .i64 (j : Int))).drew).heap.size := cell_lt hX6.out.e0
                    clear hX5 hF5 hX4 dS fS dB fB zS zB x1 hnn
                    generalize (((wc.setCell ⟨gs, vv, none⟩ (.bool true)).setCell ⟨gb, vv, none⟩ (.int .i64 (j : Int))).drew) = w5 at hX6 hF6 hz6 ⊢
                    have x1 := hX6.out.e1
                    have hgz : g < w5.heap.size := hX6.out.q.lt
                    have hz5 : w2.heap.size ≤ w5.heap.size := by omega
                    have hKn : K ≤ n := by have h1 := hS.out.qt.count; have h2 := hK.out; rw [List.length_append, List.length_cons] at h1; omega
                    have hX7 := hide (hX6.out.stays ((Below.refl _ _).alloc (Nat.le_refl _) (.cells #[.int .i64 (vv : Int)] 3)))
                    go_wp2_with (at_builtin; (refine wpList_qpush (e := 3) (g := g) (off := off) (k := K) (cap := c2) (xs := (QL (v :: R))) (base := w2.heap.size) rfl (.tmp 85) (.tmp 88) 29 rfl _ 8 Try.underlying29 info_int rfl ?d16 ?d26 (⟨w5.heap.size, 0, none⟩) 1 ((vv : Int)) ?d36 ?d46 rfl ?d56 ?d66 ?d76 ?_); (case d16 => rfl); (case d26 => exact (hX6.out.q.alloc _)); (case d36 => rfl); (case d46 => simp [go_sem]); (case d56 => omega); (case d66 => unfold maxLen; omega); (case d76 => first | omega | (simp; done) | (simp; omega)); intro g6 o6 c6 w6 own6 hgr6 hat6; have hX8 := hide (hX7.out.push hgr6 own6 (by omega) (by omega) (by omega) (by omega)); have hF8 := hide (hgr6.cell (cu_alloc hF6.out) (by simp; omega)); replace own6 := hide own6; replace hgr6 := hide hgr6)
                    go_meet
                    case rel =>
                      refine ⟨_, R ++ [vv], _, _, _, _, rfl, hide (by simp [hK.out]), hide ?_, hide (hS.out.add hnv.out e4 hpar.out), hide (fun _ _ => by simp), hF8, by simp at hat6; omega, cell_lt hX8.out.e0⟩
                      have h9 := hX8.out
                      have e9 : QL (v :: (R ++ [vv])) = QL (v :: R) ++ [(vv : Int)] := by simp [QL]
                      rw [e9]
                      exact ⟨h9.kx.seen (fun z => by rw [inL_add]; simp), h9.q, h9.e0, h9.e1, h9.e2⟩
                case rest =>
                  clear hX4 hF4 hK hS hbc hqd
                  obtain ⟨by_, R, g, off, K, c2, rfl, hK, hX4, hS, hdn, hF4, hgbe, hbc⟩ := hcut
                  obtain ⟨q, hqd⟩ : ∃ q, q = decide (vv = v ∧ u ∉ D ++ v :: R ∧ 0 < x) := ⟨_, rfl⟩
                  obtain ⟨w4, hw4⟩ : ∃ w4, w4 = wc := ⟨_, rfl⟩
                  simp only [← hw4] at hX4 hF4 hbc ⊢
                  clear hw4
                  go_upto_region 20 with fail
                  go_cut [108] (fun s108 wx => s108 = .bool q ∧ wx = w4)
                  case first =>
                    have x0 := hX4.out.e0
                    have x1 := hX4.out.e1
                    have xS := hX4.out.kx.so.atRB u e3
                    have xF := hF4.out
                    have zs := cell_lt xS
                    have zF := cell_lt xF
                    simp only at zs zF
                    by_cases huv : vv = v
                    · have q1 : ((vv : Int) == (v : Int)) = true := by simp [huv]
                      by_cases hsn : u ∈ D ++ v :: R
                      · rw [show inL (D ++ v :: R) u = true by simp only [inL, hsn, decide_true]] at xS
                        have hqf : q = false := by rw [hqd]; simp [hsn]
                        subst hqf
                        replace hqd := hide hqd
                        replace huv := hide huv
                        replace hsn := hide hsn
                        go_wp2
                        go_meet
                        case rel => exact ⟨rfl, rfl⟩
                      · rw [show inL (D ++ v :: R) u = false by simp only [inL, hsn, decide_false]] at xS
                        have hqf : q = decide (0 < x) := by rw [hqd]; simp [hsn, huv]
                        subst hqf
                        replace hqd := hide hqd
                        replace huv := hide huv
                        replace hsn := hide hsn
                        go_wp2
                        go_meet
                        case rel => exact ⟨by first | rfl | simp, rfl⟩
                    · have q1 : ((vv : Int) == (v : Int)) = false := by simp; omega
                      have hqf : q = false := by rw [hqd]; simp [huv]
                      subst hqf
                      replace hqd := hide hqd
                      replace huv := hide huv
                      go_wp2
                      go_meet
                      case rel => exact ⟨rfl, rfl⟩
                  case rest =>
                    obtain ⟨rfl, hwc⟩ := hcut
                    simp only [hwc]
                    clear hwc wc
                    cases q with
                    | false =>
                      have hS9 := hide (hS.out.next hn1.out (fun h1 h2 => hdn.out h1 (by rw [hx.out]; exact h2)) (fun h1 h2 => Classical.byContradiction fun h3 => by
                        have h5 := hqd
                        have h6 : 0 < x := by rw [hx.out]; exact h2
                        have h1' : vv = v := h1
                        simp only [h1', h6, show u ∉ D ++ v :: R from h3, not_false_eq_true, and_self, decide_true] at h5
                        cases h5))
                      replace hqd := hide hqd
                      go_wp2
                      go_roundg (gk - 1)
                      case measure => omega
                      case rel => exact ⟨by_, R, g, off, K, c2, j + 1, rfl, by go_num, hK, hide hX4.out.q, hide hX4.out.kx, hS9, by omega⟩
                    | true =>
                      have hqq : vv = v ∧ u ∉ D ++ v :: R ∧ 0 < x := by
                        have := hqd.symm
                        simpa using this
                      obtain ⟨huv, hnv, hxe⟩ := hqq
                      have x0 := hX4.out.e0
                      have dS := hX4.out.kx.so.atRB u e3
                      have fS := hX4.out.kx.so.free u
                      have dB := hX4.out.kx.kb.bo.atI u e3
                      have fB := hX4.out.kx.kb.bo.free u
                      have zS := cell_lt dS
                      have zB := cell_lt dB
                      simp only at zS zB
                      have hnn := hX4.out.q.lt
                      have hgk2 : g ≠ gb ∧ g ≠ gs ∧ w.heap.size < g := by have := hX4.out.q.2.1; omega
                      have hX5 := hide (hX4.out.both u e3 (-1 - (j : Int)) hge.1.symm hge.2.1.symm hgk2.1 hgk2.2.1)
                      have hpar := hide (show Par fl (nes es) (upz by_ u (-1 - (j : Int))) v u from .inr ⟨j, _, hn1.out, upz_same _ _ _, huv, rfl, by rw [← hx.out]; exact hxe⟩)
                      have hS9 := hide ((hS.out.add hnv e3 hpar.out).next hn1.out (fun h1 h2 => by
                        have h3 := hdn.out h1 (by rw [hx.out]; exact h2)
                        rw [show D ++ v :: (R ++ [u]) = (D ++ v :: R) ++ [u] by simp]
                        exact List.mem_append.2 (.inl h3)) (fun _ _ => by simp))
                      generalize inL (D ++ v :: R) u = y1 at dS
                      generalize by_ u = y2 at dB
                      replace huv := hide huv
                      replace hnv := hide hnv
                      replace hxe := hide hxe
                      replace hqd := hide hqd
                      clear hF4
                      go_wp2
                      go_region
                      have hX6 := hide (hX5.out.stays (below_drew _))
                      have hz6 : be < (((w4.setCell ⟨gs, u, none⟩ (.bool true)).setCell ⟨gb, u, none⟩ (.int .i64 (-1 - (j : Int)))).drew).heap.size := cell_lt hX6.out.e0
                      clear hX5 hX4 dS fS dB fB zS zB x0 hnn
                      generalize (((w4.setCell ⟨gs, u, none⟩ (.bool true)).setCell ⟨gb, u, none⟩ (.int .i64 (-1 - (j : Int)))).drew) = w5 at hX6 hz6 ⊢
                      have x0 := hX6.out.e0
                      have hgz : g < w5.heap.size := hX6.out.q.lt
                      have hz5 : w2.heap.size ≤ w5.heap.size := by have := hX6.out.q.2.1; omega
                      have hKn : K ≤ n := by have h1 := hS.out.qt.count; have h2 := hK.out; rw [List.length_append, List.length_cons] at h1; omega
                      have hX7 := hide (hX6.out.stays ((Below.refl _ _).alloc (Nat.le_refl _) (.cells #[.int .i64 (u : Int)] 3)))
                      go_wp2_with (at_builtin; (refine wpList_qpush (e := 3) (g := g) (off := off) (k := K) (cap := c2) (xs := (QL (v :: R))) (base := w2.heap.size) rfl (.tmp 119) (.tmp 122) 29 rfl _ 8 Try.underlying29 info_int rfl ?d17 ?d27 (⟨w5.heap.size, 0, none⟩) 1 ((u : Int)) ?d37 ?d47 rfl ?d57 ?d67 ?d77 ?_); (case d17 => rfl); (case d27 => exact (hX6.out.q.alloc _)); (case d37 => rfl); (case d47 => simp [go_sem]); (case d57 => omega); (case d67 => unfold maxLen; omega); (case d77 => first | omega | (simp; done) | (simp; omega)); intro g7 o7 c7 w7 own7 hgr7 hat7; have hX8 := hide (hX7.out.push hgr7 own7 (by omega) (by omega) (by omega) (by omega)); replace own7 := hide own7; replace hgr7 := hide hgr7)
                      go_roundg (gk - 1)
                      case measure => omega
                      case rel =>
                        have h9 := hX8.out
                        have e9 : QL (v :: (R ++ [u])) = QL (v :: R) ++ [(u : Int)] := by simp [QL]
                        exact ⟨_, R ++ [u], _, _, _, _, j + 1, rfl, by go_num, hide (by simp [hK.out]), hide (by rw [e9]; exact h9.q), hide (h9.kx.seen (fun z => by rw [inL_add]; simp)), hS9, by omega⟩
            · obtain rfl : m = j := by omega
              have hall := hide (SK.all (show SK fl (nes es) n s by_ D v R (nes es).length by rw [nes_len, ← hm.out]; exact hS.out))
              have hq2 := hq
              have hc2 : K ≤ c2 := hq.out.2.2.1
              obtain ⟨K', rfl⟩ : ∃ K', K = K' + 1 := ⟨R.length, hK.out⟩
              have hKp : (1 : Int) ≤ ((K' + 1 : Nat) : Int) := by omega
              have hKn : 1 ≤ K' + 1 := by omega
              have hKR := hide (show K' = R.length by have := hK.out; omega)
              have hX9 := hide (show KX w n m a cap gb gs by_ (inL ((D ++ [v]) ++ R)) wr by rw [show (D ++ [v]) ++ R = D ++ v :: R by simp]; exact hX.out)
              have hqt := hide (show QOwn 3 wr w2.heap.size g (off + 1) K' (c2 - 1) (QL R) from QOwn.tail (x := (v : Int)) (r := QL R) hq.out)
              clear hq hX hS hK
              by_cases hc1 : c2 = 1
              · subst hc1
                have hK0 : K' = 0 := by omega
                subst hK0
                have hqe := hide (show QOwn 3 wr w2.heap.size g off 0 0 (QL R) from by
                  obtain ⟨h1, h2, h3, h4, cur, h5, h6, h7⟩ := hq2.out
                  have hR : R = [] := List.eq_nil_of_length_eq_zero hKR.out.symm
                  subst hR
                  exact ⟨rfl, h2, Nat.le_refl _, by omega, cur, h5, by omega, fun j hj => by simp [QL] at hj⟩)
                clear hq2 hqt
                go_wp2
                go_roundg (gout - 1)
                case measure => omega
                case rel => exact ⟨by_, D ++ [v], R, g, off, 0, 0, rfl, hKR, hqe, hX9, hide hall.out.1, hide hall.out.2, by simp; omega⟩
              · have hc3 : (c2 : Int) - 1 ≠ 0 := by omega
                have hc4 : c2 - 1 ≠ 0 := by omega
                go_wp2
                go_roundg (gout - 1)
                case measure => omega
                case rel => exact ⟨by_, D ++ [v], R, g, off + 1, K', c2 - 1, rfl, hKR, hqt, hX9, hide hall.out.1, hide hall.out.2, by simp; omega⟩
end Go.Proofs.Ytcehdpeeaogpiaa
