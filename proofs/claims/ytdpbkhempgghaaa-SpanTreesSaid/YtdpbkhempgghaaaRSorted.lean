/-
  What the reference's Sorted returns: the pairs in order. Conditions: a bound on the length.
-/
import Derived.Test.YtdpbkhempgghaaaInsP
import Derived.Test.YtdpbkhempgghaaaSortP
namespace Go.Proofs.Ytdpbkhempgghaaa
open Go.RowKit
set_option linter.unusedSimpArgs false
set_option linter.unusedVariables false
theorem popLt_go {x y : P2} (h : y.a < x.a ∨ (y.a = x.a ∧ y.b ≤ x.b)) : popLt x y = false := by
  simp only [popLt, Bool.or_eq_false_iff, Bool.and_eq_false_iff, decide_eq_false_iff_not]; omega
theorem popLt_stop {x y : P2} (h : ¬ (y.a < x.a ∨ (y.a = x.a ∧ y.b ≤ x.b))) : popLt x y = true := by
  simp only [popLt, Bool.or_eq_true, Bool.and_eq_true, decide_eq_true_eq]; omega
/-- a place ahead of which nothing is above x -/
def AllUp (x : P2) (l : List P2) (i : Nat) : Prop := ∀ j (h : j < i) (h2 : j < l.length), popLt x l[j] = false
set_option maxRecDepth 100000 in
set_option maxHeartbeats 2000000 in
theorem rsorted_any (a : Option Addr) (cap m : Nat) (l : List P2) (hm : l.length = m) (w : World) (B : Nat) (hB : B ≤ w.heap.size) (hE : Row encP 2 w B a l) (hl : m ≤ 999999) :
    Calls Try.prog 48 #[.slice a m cap] w fun e w' => ∃ v, e = .returned v ∧ Own encP 2 88 w' w.heap.size v (sortP l) ∧ Below w.heap.size w w' := by
  replace hE := hide hE
  replace hm := hide hm
  go_enter Try.func48, Try.ntmps48
  go_wp2
  go_loopw [3, 6, 9] (fun v _ s9 wr => ∃ (k c1 : Nat) (a1 : Option Addr), k ≤ m ∧ s9 = .int .i64 k ∧ v = .slice a1 k c1 ∧ Hid (Own encP 2 88 wr w.heap.size (.slice a1 k c1) (sortP (l.take k))) ∧ Hid (Below w.heap.size w wr)) (fun _ _ s9 _ => m - (intOf s9).toNat)
  case atStart => exact ⟨0, 0, none, Nat.zero_le _, rfl, rfl, Own.nil _ _, Below.refl _ _⟩
  case round =>
    obtain ⟨k, c1, a1, hk, rfl, rfl, hO, hb⟩ := hrel
    by_cases hlt : k < m
    · have hlt' : k < l.length := by have := hm.out; omega
      obtain ⟨b, o, rfl, hbB, e0, e1⟩ := hE.out.p2 k hlt'
      have e0 := cu_below hb.out e0 (by simp; omega)
      have e1 := cu_below hb.out e1 (by simp; omega)
      have hbl := cell_lt e0
      obtain ⟨p, hp⟩ : ∃ p, p = l[k] := ⟨_, rfl⟩
      rw [← hp] at e0 e1
      have htk := List.take_succ_eq_append_getElem hlt'
      rw [← hp] at htk
      replace htk := hide (show sortP (l.take (k + 1)) = insP p (sortP (l.take k)) by rw [htk, sortP_snoc])
      replace hp := hide hp
      have hlen := hide (show (sortP (l.take k)).length = k by rw [(sortP_ok _).1.length_eq, List.length_take]; omega)
      have ik : (0 : Int) ≤ (k : Int) ∧ (k : Int) < (m : Int) := by omega
      have hz := hb.out.size
      generalize sortP (l.take k) = out at hO htk hlen
      obtain ⟨wo, rfl⟩ : ∃ wo : World, wo = wr := ⟨_, rfl⟩
      go_wp2
      obtain ⟨w0, h0⟩ : ∃ w0, w0 = wo.alloc (.cells #[.int .i64 p.a, .int .i64 p.b] 88) := ⟨_, rfl⟩
      have hO0 := hide (show Own encP 2 88 w0 w.heap.size (.slice a1 k c1) out by rw [h0]; exact hO.out.alloc _)
      have hb0 := hide (show Below w.heap.size w w0 by rw [h0]; exact up_alloc hb.out hz)
      have hz0 : w0.heap.size = wo.heap.size + 1 := by rw [h0]; simp
      have c0 : w0.cell? ⟨wo.heap.size, 0, none⟩ = some (.int .i64 p.a) := by rw [h0]; simp [go_sem]
      have c1' : w0.cell? ⟨wo.heap.size, 1, none⟩ = some (.int .i64 p.b) := by rw [h0]; simp [go_sem]
      simp only [← h0]
      replace h0 := hide h0
      replace hz0 := hide hz0
      go_loopw [6] (fun s6 wr => ∃ (i q : Nat), i ≤ k ∧ s6 = .int .i64 i ∧ Hid (wr = w0.drewN q) ∧ Hid (AllUp p out i)) (fun s6 _ => k - (intOf s6).toNat)
      case atStart => exact ⟨0, 0, Nat.zero_le _, rfl, hide rfl, hide (fun j h _ => by omega)⟩
      case round =>
        obtain ⟨i, q, hi, rfl, hwr, hup⟩ := hrel
        have d0 : wr.cell? ⟨wo.heap.size, 0, none⟩ = some (.int .i64 p.a) := by rw [hwr.out]; exact cu_drewN c0
        have d1 : wr.cell? ⟨wo.heap.size, 1, none⟩ = some (.int .i64 p.b) := by rw [hwr.out]; exact cu_drewN c1'
        have dl : wo.heap.size < wr.heap.size := cell_lt d0
        have hOr := hide (show Own encP 2 88 wr w.heap.size (.slice a1 k c1) out by rw [hwr.out]; exact hO0.out.drewN _)
        have hbr := hide (show Below w.heap.size w wr by rw [hwr.out]; exact up_drewN hb0.out)
        by_cases hik : i < k
        · obtain ⟨b, o, hb1, hb2, f0, f1⟩ : ∃ b o, a1 = some ⟨b, o, none⟩ ∧ b < wr.heap.size ∧ wr.cell? ⟨b, o + i * 2, none⟩ = some (.int .i64 (out[i]'(by rw [hlen.out]; exact hik)).a) ∧ wr.cell? ⟨b, o + i * 2 + 1, none⟩ = some (.int .i64 (out[i]'(by rw [hlen.out]; exact hik)).b) := by
            obtain ⟨a', c', hv, hr, _⟩ := hOr.out.row lenP
            obtain ⟨b, o, h1, h2, h3, h4⟩ := hr.p2 i (by rw [hlen.out]; exact hik)
            injection hv with g1 g2 g3
            exact ⟨b, o, g1.trans h1, h2, h3, h4⟩
          subst hb1
          obtain ⟨y, hy⟩ : ∃ y, y = out[i]'(by rw [hlen.out]; exact hik) := ⟨_, rfl⟩
          rw [← hy] at f0 f1
          have ii : (0 : Int) ≤ (i : Int) ∧ (i : Int) < (k : Int) := by omega
          have t1 : decide (i < k) = true := by simp [hik]
          have hcl := hide (show ∀ h : popLt p y = false, AllUp p out (i + 1) from fun h j hj hj2 => by
            by_cases e : j = i
            · subst e; rw [← hy]; exact h
            · exact hup.out j (by omega) hj2)
          have hst := hide (show ∀ h : popLt p y = true, insP p out = out.take i ++ p :: out.drop i from fun h => insP_at p out i (by rw [hlen.out]; omega) (fun j hj => hup.out j hj _) (fun h2 => by rw [← hy]; exact h))
          replace hy := hide hy
          by_cases hgo : y.a < p.a
          · have t2 : decide (y.a < p.a) = true := by simp [hgo]
            have hnx := hide (hcl.out (popLt_go (.inl hgo)))
            clear hcl hst hO hO0 hb hb0
            go_wp2
            go_quiet (fail)
            go_wp2
            go_roundw
            case rel => exact ⟨i + 1, q + nq, by omega, by go_num, hide (by rw [hwr.out]; simp), hnx⟩
            case measure => simp [intOf]; omega
          · have t2 : decide (y.a < p.a) = false := by simp; omega
            by_cases heq : y.a = p.a
            · have t3 : (y.a == p.a) = true := by simp [heq]
              by_cases hle : y.b ≤ p.b
              · have t4 : decide (y.b ≤ p.b) = true := by simp [hle]
                have hnx := hide (hcl.out (popLt_go (.inr ⟨heq, hle⟩)))
                clear heq hcl hst hO hO0 hb hb0
                go_wp2
                go_quiet (fail)
                go_wp2
                go_roundw
                case rel => exact ⟨i + 1, q + nq, by omega, by go_num, hide (by rw [hwr.out]; simp), hnx⟩
                case measure => simp [intOf]; omega
              · have t4 : decide (y.b ≤ p.b) = false := by simp; omega
                have hin := hide (hst.out (popLt_stop (by omega)))
                clear heq hle hgo hcl hst
                clear hO hO0 hb0
                go_wp2
                go_quiet (fail)
                obtain ⟨wx, hwx⟩ : ∃ wx : World, wx = wr.drewN nq := ⟨_, rfl⟩
                have hOx := hide (show Own encP 2 88 wx w.heap.size (.slice (some ⟨b, o, none⟩) k c1) out by rw [hwx]; exact hOr.out.drewN _)
                have hbx := hide (show Below w.heap.size w wx by rw [hwx]; exact up_drewN hbr.out)
                have x0 : wx.cell? ⟨wo.heap.size, 0, none⟩ = some (.int .i64 p.a) := by rw [hwx]; exact cu_drewN d0
                have x1 : wx.cell? ⟨wo.heap.size, 1, none⟩ = some (.int .i64 p.b) := by rw [hwx]; exact cu_drewN d1
                have xl : wo.heap.size < wx.heap.size := cell_lt x0
                have xz := hbx.out.size
                simp only [← hwx]
                replace hwx := hide hwx
                clear d0 d1 dl hOr hbr hwr
                have hIns := hide (fun tv => insP_any w.heap.size k c1 i wx.heap.size (some ⟨b, o, none⟩) out p tv (wx.alloc (.cells #[.int .i64 p.a, .int .i64 p.b] tv)) (hOx.out.alloc _) (by simp; omega) (by omega) (by omega) (by show (wx.heap.push _)[wx.heap.size]? = _; simp) (.inr (fun e => by have := (hOx.out.block_lt _ e).2; omega)))
                go_wp2_with fail
                refine (hIns.out _).mono ?_
                rintro e w2 ⟨g, c2, rfl, own2, hk2⟩
                have hb2 := hide (hbx.out.trans (unalloc (hk2.toBelow (B := w.heap.size) (fun j hj => (hOx.out.block_lt j hj).1) (by simp; omega)) xz))
                rw [← hin.out, ← htk.out] at own2
                replace own2 := hide own2
                clear hk2 hIns
                go_wp2
                go_roundw
                case rel => exact ⟨k + 1, c2, some ⟨g, 0, none⟩, by omega, by go_num, rfl, own2, hb2⟩
                case measure => simp [intOf]; omega
            · have t3 : (y.a == p.a) = false := by simp [heq]
              have hin := hide (hst.out (popLt_stop (by omega)))
              clear heq hgo hcl hst
              clear hO hO0 hb0
              go_wp2
              go_quiet (fail)
              obtain ⟨wx, hwx⟩ : ∃ wx : World, wx = wr.drewN nq := ⟨_, rfl⟩
              have hOx := hide (show Own encP 2 88 wx w.heap.size (.slice (some ⟨b, o, none⟩) k c1) out by rw [hwx]; exact hOr.out.drewN _)
              have hbx := hide (show Below w.heap.size w wx by rw [hwx]; exact up_drewN hbr.out)
              have x0 : wx.cell? ⟨wo.heap.size, 0, none⟩ = some (.int .i64 p.a) := by rw [hwx]; exact cu_drewN d0
              have x1 : wx.cell? ⟨wo.heap.size, 1, none⟩ = some (.int .i64 p.b) := by rw [hwx]; exact cu_drewN d1
              have xl : wo.heap.size < wx.heap.size := cell_lt x0
              have xz := hbx.out.size
              simp only [← hwx]
              replace hwx := hide hwx
              clear d0 d1 dl hOr hbr hwr
              have hIns := hide (fun tv => insP_any w.heap.size k c1 i wx.heap.size (some ⟨b, o, none⟩) out p tv (wx.alloc (.cells #[.int .i64 p.a, .int .i64 p.b] tv)) (hOx.out.alloc _) (by simp; omega) (by omega) (by omega) (by show (wx.heap.push _)[wx.heap.size]? = _; simp) (.inr (fun e => by have := (hOx.out.block_lt _ e).2; omega)))
              go_wp2_with fail
              refine (hIns.out _).mono ?_
              rintro e w2 ⟨g, c2, rfl, own2, hk2⟩
              have hb2 := hide (hbx.out.trans (unalloc (hk2.toBelow (B := w.heap.size) (fun j hj => (hOx.out.block_lt j hj).1) (by simp; omega)) xz))
              rw [← hin.out, ← htk.out] at own2
              replace own2 := hide own2
              clear hk2 hIns
              go_wp2
              go_roundw
              case rel => exact ⟨k + 1, c2, some ⟨g, 0, none⟩, by omega, by go_num, rfl, own2, hb2⟩
              case measure => simp [intOf]; omega
        · obtain rfl : i = k := by omega
          have t1 : decide (i < i) = false := by simp
          have hin := hide (show insP p out = out.take i ++ p :: out.drop i from insP_at p out i (by rw [hlen.out]; omega) (fun j hj => hup.out j hj _) (fun h2 => by rw [hlen.out] at h2; omega))
          clear hO hO0 hb0
          go_wp2
          go_quiet (fail)
          obtain ⟨wx, hwx⟩ : ∃ wx : World, wx = wr.drewN nq := ⟨_, rfl⟩
          have hOx := hide (show Own encP 2 88 wx w.heap.size (.slice a1 i c1) out by rw [hwx]; exact hOr.out.drewN _)
          have hbx := hide (show Below w.heap.size w wx by rw [hwx]; exact up_drewN hbr.out)
          have x0 : wx.cell? ⟨wo.heap.size, 0, none⟩ = some (.int .i64 p.a) := by rw [hwx]; exact cu_drewN d0
          have x1 : wx.cell? ⟨wo.heap.size, 1, none⟩ = some (.int .i64 p.b) := by rw [hwx]; exact cu_drewN d1
          have xl : wo.heap.size < wx.heap.size := cell_lt x0
          have xz := hbx.out.size
          simp only [← hwx]
          replace hwx := hide hwx
          clear d0 d1 dl hOr hbr hwr
          have hIns := hide (fun tv => insP_any w.heap.size i c1 i wx.heap.size a1 out p tv (wx.alloc (.cells #[.int .i64 p.a, .int .i64 p.b] tv)) (hOx.out.alloc _) (by simp; omega) (by omega) (by omega) (by show (wx.heap.push _)[wx.heap.size]? = _; simp) (.inr (fun e => by have := (hOx.out.block_lt _ e).2; omega)))
          go_wp2_with fail
          refine (hIns.out _).mono ?_
          rintro e w2 ⟨g, c2, rfl, own2, hk2⟩
          have hb2 := hide (hbx.out.trans (unalloc (hk2.toBelow (B := w.heap.size) (fun j hj => (hOx.out.block_lt j hj).1) (by simp; omega)) xz))
          rw [← hin.out, ← htk.out] at own2
          replace own2 := hide own2
          clear hk2 hIns
          go_wp2
          go_roundw
          case rel => exact ⟨i + 1, c2, some ⟨g, 0, none⟩, by omega, by go_num, rfl, own2, hb2⟩
          case measure => simp [intOf]; omega
    · obtain rfl : k = m := by omega
      have hf : sortP (l.take k) = sortP l := by rw [List.take_of_length_le (by have := hm.out; omega)]
      rw [hf] at hO
      go_wp2
      go_ret
      exact ⟨_, rfl, hO.out, hb.out⟩
end Go.Proofs.Ytdpbkhempgghaaa
