/-
  What the reference's More returns. Conditions: a right net.
-/
import Derived.Test.YtcehdpeeaogpiaaRFlow
import Derived.BigQuiet
import Derived.Deep.QuietTactic
import Derived.WalkSpells
import Derived.WalkLawsBesides
import Derived.ChangeAlike
import Derived.RegionTactic
import Derived.Deep.DeepCutAuto
namespace Go.Proofs.Ytcehdpeeaogpiaa
open Go.RowKit
set_option linter.unusedSimpArgs false
set_option linter.unusedVariables false
def MInv (w : World) (n : Nat) (a : Option Addr) (len cap : Nat) (f : Nat → Bool) (wr : World) : Prop :=
  wr.cell? ⟨w.heap.size, 0, none⟩ = some (.int .i64 (n : Int)) ∧ wr.cell? ⟨w.heap.size, 1, none⟩ = some (.slice a len cap) ∧ Own encB 1 4 wr w.heap.size (.slice (some ⟨w.heap.size + 1, 0, none⟩) n n) (RW n f) ∧ Below w.heap.size w wr
section
variable {w : World} {n : Nat} {a : Option Addr} {len cap : Nat} {f : Nat → Bool} {wr : World}
theorem MInv.later (h : MInv w n a len cap f wr) {wr' : World} (hb : Below wr.heap.size wr wr') : MInv w n a len cap f wr' := ⟨(hb.cell (cell_lt h.1)).trans h.1, (hb.cell (cell_lt h.2.1)).trans h.2.1, h.2.2.1.below hb (Nat.le_refl _), h.2.2.2.trans (hb.mono h.2.2.2.size)⟩
theorem MInv.at (h : MInv w n a len cap f wr) (i : Nat) (hi : i < n) : wr.cell? ⟨w.heap.size + 1, i, none⟩ = some (.bool (f i)) := h.2.2.1.atRB i hi
theorem MInv.set (h : MInv w n a len cap f wr) (i : Nat) (hi : i < n) (x : Bool) : MInv w n a len cap (upz f i x) (wr.setCell ⟨w.heap.size + 1, i, none⟩ (.bool x)) :=
  ⟨cu_set h.1 (by simp), cu_set h.2.1 (by simp), h.2.2.1.setRB i hi x, h.2.2.2.setCell (by simp) _⟩
end
theorem only_set' (v : Nat) : upz (fun _ => false) v true = only v := by
  funext u; simp [upz, only]
theorem minv_start {w w1 : World} {n : Nat} {a : Option Addr} {len cap : Nat} (own : Own encB 1 4 w1 w.heap.size (.slice (some ⟨(w.alloc (.cells #[.int .i64 (n : Int), .slice a len cap] 24)).heap.size, 0, none⟩) n n) (List.replicate n false))
    (hb : Below (w.alloc (.cells #[.int .i64 (n : Int), .slice a len cap] 24)).heap.size (w.alloc (.cells #[.int .i64 (n : Int), .slice a len cap] 24)) w1) : MInv w n a len cap (fun _ => false) w1 := by
  have e0 : (w.alloc (.cells #[.int .i64 (n : Int), .slice a len cap] 24)).cell? ⟨w.heap.size, 0, none⟩ = some (.int .i64 (n : Int)) := by simp [go_sem]
  have e1 : (w.alloc (.cells #[.int .i64 (n : Int), .slice a len cap] 24)).cell? ⟨w.heap.size, 1, none⟩ = some (.slice a len cap) := by simp [go_sem]
  have hs : (w.alloc (.cells #[.int .i64 (n : Int), .slice a len cap] 24)).heap.size = w.heap.size + 1 := by simp
  rw [hs] at own
  rw [rw_rep'] at own
  exact ⟨(hb.cell (cell_lt e0)).trans e0, (hb.cell (cell_lt e1)).trans e1, own, (up_alloc (Below.refl _ _) (Nat.le_refl _)).trans (hb.mono (by simp))⟩
/-- both ways over edge j -/
def mstep (fl : Nat → Int) (f : Nat → Bool) (j u v : Nat) (c : Int) : Nat → Bool := rstep posA (rstep posA f ⟨u, v, c - fl j⟩) ⟨v, u, fl j⟩
theorem arcs_app (fl : Nat → Int) : ∀ (A B : List NE) (k : Nat), arcs fl (A ++ B) k = arcs fl A k ++ arcs fl B (k + A.length)
  | [], B, k => by simp [arcs]
  | e :: r, B, k => by
    simp only [List.cons_append, arcs, List.length_cons]
    rw [arcs_app fl r B (k + 1), show k + 1 + r.length = k + (r.length + 1) by omega]
theorem arcs_take {fl : Nat → Int} {es : List Ed} {j : Nat} (h : j < es.length) {u v : Nat} {c : Int} (ht : nes (es.take (j + 1)) = nes (es.take j) ++ [⟨u, v, c⟩]) (f : Nat → Bool) :
    (arcs fl (nes (es.take (j + 1))) 0).foldl (rstep posA) f = mstep fl ((arcs fl (nes (es.take j)) 0).foldl (rstep posA) f) j u v c := by
  rw [ht, arcs_app, nes_take_len es j (by omega), List.foldl_append]
  simp [arcs, mstep]
/-- the state, the edge that is looked at, laid in block be, and what flows over it -/
structure MX (w : World) (n : Nat) (a : Option Addr) (len cap be : Nat) (u v : Nat) (cc : Int) (b4 o4 : Nat) (x : Int) (f : Nat → Bool) (wr : World) : Prop where
  mi : MInv w n a len cap f wr
  e0 : wr.cell? ⟨be, 0, none⟩ = some (.int .i64 (u : Int))
  e1 : wr.cell? ⟨be, 1, none⟩ = some (.int .i64 (v : Int))
  e2 : wr.cell? ⟨be, 2, none⟩ = some (.int .i64 cc)
  fx : wr.cell? ⟨b4, o4, none⟩ = some (.int .i64 x)
  ne : w.heap.size + 1 < be ∧ b4 < w.heap.size
section
variable {w wr w' : World} {n : Nat} {a : Option Addr} {len cap be u v b4 o4 : Nat} {cc x : Int} {f : Nat → Bool}
theorem MX.stays (h : MX w n a len cap be u v cc b4 o4 x f wr) (hb : Below wr.heap.size wr w') : MX w n a len cap be u v cc b4 o4 x f w' :=
  ⟨h.mi.later hb, cu_below hb h.e0 (cell_lt h.e0), cu_below hb h.e1 (cell_lt h.e1), cu_below hb h.e2 (cell_lt h.e2), cu_below hb h.fx (cell_lt h.fx), h.ne⟩
theorem MX.set (h : MX w n a len cap be u v cc b4 o4 x f wr) (i : Nat) (hi : i < n) (y : Bool) : MX w n a len cap be u v cc b4 o4 x (upz f i y) (wr.setCell ⟨w.heap.size + 1, i, none⟩ (.bool y)) := by
  have hn := h.ne
  exact ⟨h.mi.set i hi y, cu_set h.e0 (by simp; omega), cu_set h.e1 (by simp; omega), cu_set h.e2 (by simp; omega), cu_set h.fx (by simp; omega), h.ne⟩
end
set_option maxRecDepth 100000 in
set_option maxHeartbeats 8000000 in
theorem rmore_any (n s : Nat) (a af : Option Addr) (cap cf : Nat) (es : List Ed) (fl : Nat → Int) (w : World) (B : Nat) (hB : B ≤ w.heap.size) (hE : Row encE 3 w B a es) (hF : Row encI 1 w B af (LI es.length fl)) (hn1 : 1 ≤ n) (hn : n ≤ 64) (hl : es.length ≤ 600) (hes : Right n es) (hs : s < n) :
    Calls Try.prog 31 #[.agg #[.int .i64 (n : Int), .slice a es.length cap], .slice af es.length cf, .int .i64 (s : Int)] w fun e w' => ∃ g, e = .returned (.slice (some ⟨g, 0, none⟩) n n) ∧ Own encB 1 4 w' w.heap.size (.slice (some ⟨g, 0, none⟩) n n) (RW n (rreach (arcs fl (nes es) 0) posA (only s) n)) ∧ Below w.heap.size w w' := by
  replace hE := hide hE
  replace hF := hide hF
  replace hes := hide hes
  have i1 : (0 : Int) ≤ (s : Int) ∧ (s : Int) < (n : Int) := by omega
  go_enter Try.func31, Try.ntmps31
  go_wp2_with (at_make; (refine wpList_mk (e := 4) (enc := encB) rfl (.tmp 11) 52 rfl (.bool false) 1 false Try.underlying52 info_bool rfl rfl (n) ?e11 ?e21 ?e31 (w.heap.size) ?e41 ?_); (case e11 => rfl); (case e21 => omega); (case e31 => unfold maxLen; omega); (case e41 => first | omega | (simp; done) | (simp; omega)); intro w1 own1 hb1 hsz1; have hI0 := hide (minv_start own1 hb1); have hI1 := hide (hI0.out.set s hs true); have d0 := hI0.out.at s hs; have q0 := hI0.out.2.2.1.free s; obtain ⟨hc1, hf1⟩ := bcell hb1; have hz1 := hI0.out.2.2.1.at_base.2; clear hsz1; replace own1 := hide own1; replace hb1 := hide hb1)
  rw [only_set'] at hI1
  clear hI0 d0 q0 hc1 hf1 own1 hb1 hz1
  go_loopw [18] (fun i wr => ∃ (t : Nat), t ≤ n ∧ i = .int .i64 t ∧ Hid (MInv w n a es.length cap (rreach (arcs fl (nes es) 0) posA (only s) t) wr)) (fun i _ => n - (intOf i).toNat)
  case atStart => exact ⟨0, Nat.zero_le _, rfl, hI1⟩
  case round =>
    obtain ⟨t, ht, rfl, hT⟩ := hrel
    clear hI1
    by_cases hlt : t < n
    · obtain ⟨wi, rfl⟩ : ∃ wi : World, wi = wr := ⟨_, rfl⟩
      have c1 := hT.out.2.1
      go_wp2
      clear c1
      go_loopw [23] (fun i wr => ∃ (j : Nat) (f : Nat → Bool), j ≤ es.length ∧ i = .int .i64 j ∧ Hid (f = (arcs fl (nes (es.take j)) 0).foldl (rstep posA) (rreach (arcs fl (nes es) 0) posA (only s) t)) ∧ Hid (MInv w n a es.length cap f wr)) (fun i _ => es.length - (intOf i).toNat)
      case atStart => exact ⟨0, _, Nat.zero_le _, rfl, rfl, hT⟩
      case round =>
        clear hT
        obtain ⟨j, f, hj, rfl, hf, hI⟩ := hrel
        by_cases hjl : j < es.length
        · obtain ⟨b, o, rfl, hbB, e0, e1, e2⟩ := hE.out.ed j hjl
          obtain ⟨b4, o4, rfl, hb4, f0⟩ := hF.out.atI j hjl
          have hbb := hI.out.2.2.2
          rw [← hbb.cell (by simp; omega)] at e0 e1 e2 f0
          obtain ⟨u, v, hu, hv, hun, hvn, hc1, hc2, hnt⟩ := right_edge hes.out j hjl
          rw [hu] at e0
          rw [hv] at e1
          obtain ⟨cc, hcc⟩ : ∃ x, x = es[j].c := ⟨_, rfl⟩
          rw [← hcc] at e2 hc1 hc2 hnt
          obtain ⟨x, hx⟩ : ∃ x, x = fl j := ⟨_, rfl⟩
          rw [← hx] at f0
          have d1 := hI.out.at u hun
          have d2 := hI.out.at v hvn
          have q2 := hI.out.2.2.1.free v
          have q1 := hI.out.2.2.1.free u
          have q3 := hI.out.2.2.1.at_base.2
          have hstep := hide (show mstep fl f j u v cc = (arcs fl (nes (es.take (j + 1))) 0).foldl (rstep posA) (rreach (arcs fl (nes es) 0) posA (only s) t) by
            rw [arcs_take hjl hnt, ← hf.out])
          have i2 : (0 : Int) ≤ (u : Int) ∧ (u : Int) < (n : Int) := by omega
          have i3 : (0 : Int) ≤ (v : Int) ∧ (v : Int) < (n : Int) := by omega
          have ij : (0 : Int) ≤ (j : Int) ∧ (j : Int) < (es.length : Int) := by omega
          have hbs := hbb.size
          have hbl : b < wr.heap.size := by omega
          have hbl4 : b4 < wr.heap.size := by omega
          have hAl := hide (fun k => ((up_drewN (n := k) (up_alloc (Below.refl wr.heap.size wr) (Nat.le_refl _))) : Below wr.heap.size wr ((wr.alloc (.cells #[.int .i64 (u : Int), .int .i64 (v : Int), .int .i64 cc] 34)).drewN k)))
          have hfx : Hid (fl j = x) := hide hx.symm
          replace hcc := hide hcc
          replace hnt := hide hnt
          replace hx := hide hx
          replace hbb := hide hbb
          clear hu hv hf
          go_upto_region 8 with fail
          obtain ⟨w4, h4⟩ : ∃ w4, w4 = wr.alloc (.cells #[.int .i64 (u : Int), .int .i64 (v : Int), .int .i64 cc] 34) := ⟨_, rfl⟩
          obtain ⟨be, hbe⟩ : ∃ be, be = wr.heap.size := ⟨_, rfl⟩
          have hX4 : Hid (MX w n (some ⟨b, o, none⟩) es.length cap be u v cc b4 (o4 + j) x f w4) := hide (by
            rw [h4, hbe]
            exact ⟨hI.out.later (up_alloc (Below.refl _ _) (Nat.le_refl _)), by simp [go_sem], by simp [go_sem], by simp [go_sem], cu_alloc f0, by omega⟩)
          have hge : be < w4.heap.size ∧ w.heap.size + 1 < be := by rw [h4]; simp; omega
          simp only [← h4]
          simp only [← hbe]
          replace h4 := hide h4
          replace hbe := hide hbe
          clear e0 e1 e2 f0 hI hbb hbl hbl4 d1 d2 q1 q2 hAl q3
          obtain ⟨q, hqd⟩ : ∃ q, q = decide (f u = true ∧ x < cc) := ⟨_, rfl⟩
          go_cut [41] (fun s41 wx => s41 = .bool q ∧ Hid (MX w n (some ⟨b, o, none⟩) es.length cap be u v cc b4 (o4 + j) x f wx))
          case first =>
            have x0 := hX4.out.e0
            have x2 := hX4.out.e2
            have xS := hX4.out.mi.at u hun
            have xF := hX4.out.fx
            have zs := cell_lt xS
            have zF := cell_lt xF
            simp only at zs zF
            have hdr := hide (fun k => ((up_drewN (n := k) (Below.refl w4.heap.size w4)) : Below w4.heap.size w4 (w4.drewN k)))
            cases hfu : f u with
            | false =>
              rw [hfu] at xS
              have hqf : q = false := by rw [hqd]; simp [hfu]
              subst hqf
              replace hqd := hide hqd
              clear hfu
              go_wp2
              go_quiet (fail)
              go_wp2
              go_meet
              case rel => exact ⟨rfl, hide (hX4.out.stays (hdr.out nq))⟩
            | true =>
              rw [hfu] at xS
              have hqf : q = decide (x < cc) := by rw [hqd]; simp [hfu]
              subst hqf
              replace hqd := hide hqd
              clear hfu
              by_cases hlc : x < cc
              · go_wp2
                go_quiet (fail)
                go_wp2
                go_meet
                case rel => exact ⟨by first | rfl | simp [hlc], hide (hX4.out.stays (hdr.out nq))⟩
              · go_wp2
                go_quiet (fail)
                go_wp2
                go_meet
                case rel => exact ⟨by first | rfl | simp [hlc], hide (hX4.out.stays (hdr.out nq))⟩
          case rest =>
            clear hX4
            obtain ⟨rfl, hX4⟩ := hcut
            go_upto_if 41 with fail
            go_cut [] (fun wx => Hid (MX w n (some ⟨b, o, none⟩) es.length cap be u v cc b4 (o4 + j) x (rstep posA f ⟨u, v, cc - x⟩) wx))
            case first =>
              cases q with
              | false =>
                have hrs := hide (show rstep posA f ⟨u, v, cc - x⟩ = f by
                  unfold rstep
                  refine if_neg (fun h => ?_)
                  simp only [posA, decide_eq_true_eq] at h
                  have := hqd.symm
                  simp only [decide_eq_false_iff_not] at this
                  exact this ⟨h.1, by omega⟩)
                replace hqd := hide hqd
                go_wp2
                go_meet
                case rel => rw [hrs.out]; exact hX4
              | true =>
                have hqq : f u = true ∧ x < cc := by simpa using hqd.symm
                have hrs := hide (show rstep posA f ⟨u, v, cc - x⟩ = upz f v true by
                  unfold rstep
                  refine if_pos ⟨hqq.1, ?_⟩
                  simp only [posA, decide_eq_true_eq]
                  omega)
                have x1 := hX4.out.e1
                have dS := hX4.out.mi.at v hvn
                have fS := hX4.out.mi.2.2.1.free v
                have zS := cell_lt dS
                simp only at zS
                have hX5 := hide (hX4.out.set v hvn true)
                generalize f v = y1 at dS
                replace hqq := hide hqq
                replace hqd := hide hqd
                go_wp2
                go_meet
                case rel => rw [hrs.out]; exact hX5
            case rest =>
              obtain ⟨f2, hf2⟩ : ∃ f2, f2 = rstep posA f ⟨u, v, cc - x⟩ := ⟨_, rfl⟩
              rw [← hf2] at hcut
              have hms := hide (show rstep posA f2 ⟨v, u, x⟩ = mstep fl f j u v cc by unfold mstep; rw [hfx.out, hf2])
              replace hf2 := hide hf2
              clear hX4
              have hX4 := hcut
              obtain ⟨w5, hw5⟩ : ∃ w5, w5 = wc := ⟨_, rfl⟩
              simp only [← hw5] at hX4 ⊢
              clear hcut hw5 hqd
              obtain ⟨q, hqd⟩ : ∃ q, q = decide (f2 v = true ∧ 0 < x) := ⟨_, rfl⟩
              go_upto_region 10 with fail
              go_cut [57] (fun s57 wx => s57 = .bool q ∧ Hid (MX w n (some ⟨b, o, none⟩) es.length cap be u v cc b4 (o4 + j) x f2 wx))
              case first =>
                have x1 := hX4.out.e1
                have xS := hX4.out.mi.at v hvn
                have xF := hX4.out.fx
                have zs := cell_lt xS
                have zF := cell_lt xF
                have z1 := cell_lt x1
                simp only at zs zF z1
                have hdr := hide (fun k => ((up_drewN (n := k) (Below.refl w5.heap.size w5)) : Below w5.heap.size w5 (w5.drewN k)))
                cases hfu : f2 v with
                | false =>
                  rw [hfu] at xS
                  have hqf : q = false := by rw [hqd]; simp [hfu]
                  subst hqf
                  replace hqd := hide hqd
                  clear hfu
                  go_wp2
                  go_meet
                  case rel => exact ⟨rfl, hX4⟩
                | true =>
                  rw [hfu] at xS
                  have hqf : q = decide (0 < x) := by rw [hqd]; simp [hfu]
                  subst hqf
                  replace hqd := hide hqd
                  clear hfu
                  by_cases hlc : 0 < x
                  · go_wp2
                    go_meet
                    case rel => exact ⟨by first | rfl | simp [hlc], hX4⟩
                  · go_wp2
                    go_meet
                    case rel => exact ⟨by first | rfl | simp [hlc], hX4⟩
              case rest =>
                clear hX4
                obtain ⟨rfl, hX4⟩ := hcut
                cases q with
                | false =>
                  have hrs := hide (show rstep posA f2 ⟨v, u, x⟩ = f2 by
                    unfold rstep
                    refine if_neg (fun h => ?_)
                    simp only [posA, decide_eq_true_eq] at h
                    have := hqd.symm
                    simp only [decide_eq_false_iff_not] at this
                    exact this h)
                  replace hqd := hide hqd
                  go_wp2
                  go_roundw
                  case rel => refine ⟨j + 1, _, by omega, by go_num, hide (by rw [← hstep.out, ← hms.out, hrs.out]), hide hX4.out.mi⟩
                  case measure => simp [intOf]; omega
                | true =>
                  have hqq : f2 v = true ∧ 0 < x := by simpa using hqd.symm
                  have hrs := hide (show rstep posA f2 ⟨v, u, x⟩ = upz f2 u true by
                    unfold rstep
                    refine if_pos ⟨hqq.1, ?_⟩
                    simp only [posA, decide_eq_true_eq]
                    exact hqq.2)
                  have x0 := hX4.out.e0
                  have dS := hX4.out.mi.at u hun
                  have fS := hX4.out.mi.2.2.1.free u
                  have zS := cell_lt dS
                  have z0 := cell_lt x0
                  simp only at zS z0
                  have hX5 := hide (hX4.out.mi.set u hun true)
                  generalize f2 u = y1 at dS
                  replace hqq := hide hqq
                  replace hqd := hide hqd
                  go_wp2
                  go_roundw
                  case rel => exact ⟨j + 1, _, by omega, by go_num, hide (by rw [← hstep.out, ← hms.out, hrs.out]), hX5⟩
                  case measure => simp [intOf]; omega
        · obtain rfl : es.length = j := by omega
          have hf2 := hide (show f = rreach (arcs fl (nes es) 0) posA (only s) (t + 1) by rw [hf.out, List.take_length]; rfl)
          go_wp2
          go_roundw
          case rel => exact ⟨t + 1, by omega, by go_num, by rw [← hf2.out]; exact hI⟩
          case measure => simp [intOf]; omega
    · obtain rfl : n = t := by omega
      go_wp2
      go_ret
      exact ⟨_, rfl, hT.out.2.2.1, hT.out.2.2.2⟩
end Go.Proofs.Ytcehdpeeaogpiaa
