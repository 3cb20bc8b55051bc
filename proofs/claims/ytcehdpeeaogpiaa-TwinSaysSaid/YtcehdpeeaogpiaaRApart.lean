/-
  What the reference's Apart returns: whether two walks share no edge. Conditions: a right net, right walks.
-/
import Derived.Test.YtcehdpeeaogpiaaTwP
import Derived.Test.YtcehdpeeaogpiaaApart
namespace Go.Proofs.Ytcehdpeeaogpiaa
open Go.RowKit
set_option linter.unusedSimpArgs false
set_option linter.unusedVariables false
set_option maxRecDepth 100000 in
set_option maxHeartbeats 1000000 in
theorem steps_any (n u v sb : Nat) (pa qa : Option Addr) (pc qc : Nat) (p q : List Int) (w : World) (B : Nat) (hB : B ≤ w.heap.size) (hP : Row encI 1 w B pa p) (hQ : Row encI 1 w B qa q) (hWp : Walked n p) (hWq : Walked n q)
    (c0 : w.cell? ⟨sb, 0, none⟩ = some (.slice pa p.length pc)) (c1 : w.cell? ⟨sb, 1, none⟩ = some (.slice qa q.length qc)) :
    Calls Try.prog 163 #[.int .i64 (u : Int), .int .i64 (v : Int), .slice (some ⟨sb, 0, none⟩) 2 2] w fun e w' => e = .returned (.int .i64 (stA p u v + stA q u v)) ∧ w' = w := by
  replace hP := hide hP
  replace hQ := hide hQ
  replace hWp := hide hWp
  replace hWq := hide hWq
  have hsb := cell_lt c0
  go_enter Try.func163, Try.ntmps163
  go_wp2
  go_loopw [7, 9, 10, 13] (fun s7 _ _ i wr => ∃ (j : Nat) (g : Int), j ≤ 2 ∧ i = .int .i64 j ∧ s7 = .int .i64 g ∧ Hid (g = gS p q j u v) ∧ Hid (wr = w)) (fun _ _ _ i _ => 2 - (intOf i).toNat)
  case atStart => exact ⟨0, 0, by omega, rfl, rfl, by simp [gS, Hid], by first | exact hide rfl | exact hide trivial⟩
  case round =>
    obtain ⟨j, g, hj, rfl, rfl, hg, hwq⟩ := hrel
    obtain rfl := hwq.out
    have hbd := gS_bd hWp.out hWq.out j u v
    by_cases hlt : j < 2
    · obtain ⟨ps, sl, sc, hcell, hrow, hsl, hWs⟩ : ∃ (ps : Option Addr) (l : List Int) (sc : Nat), wr.cell? ⟨sb, j, none⟩ = some (.slice ps l.length sc) ∧ Row encI 1 wr B ps l ∧ l = selW p q j ∧ Walked n l := by
        obtain rfl | rfl : j = 0 ∨ j = 1 := by omega
        · exact ⟨pa, p, pc, c0, hP.out, rfl, hWp.out⟩
        · exact ⟨qa, q, qc, c1, hQ.out, rfl, hWq.out⟩
      have hst := hide (show ∀ k, k = sl.length - 1 → gS p q j u v + stC sl k u v = gS p q (j + 1) u v from fun k hk => by subst hsl; exact congrFun (congrFun (gS_step p q hlt hk) (u : Int)) (v : Int))
      have hl1 := hWs.1
      have hl2 := hWs.2.1
      have hg0 := hide (show g = g + stC sl 0 u v by rw [stC_zero]; simp)
      rw [← hg.out] at hbd hst
      replace hrow := hide hrow
      replace hsl := hide hsl
      replace hWs := hide hWs
      obtain ⟨sm, hsm⟩ : ∃ sm, sm = sl.length := ⟨_, rfl⟩
      rw [← hsm] at hcell hl1 hl2
      replace hsm := hide hsm
      have ij : (0 : Int) ≤ (j : Int) ∧ (j : Int) < 2 := by omega
      go_wp2
      clear hcell
      go_loopw [7, 10] (fun s7 i wr' => ∃ (k : Nat) (c : Int), k + 1 ≤ sm ∧ i = .int .i64 ((k : Int) + 1) ∧ s7 = .int .i64 c ∧ 0 ≤ c ∧ c ≤ 1000 ∧ Hid (c = g + stC sl k u v) ∧ Hid (wr' = wr)) (fun _ i _ => sm - (intOf i).toNat)
      case atStart => exact ⟨0, g, by omega, rfl, rfl, by omega, by omega, hg0, by first | exact hide rfl | exact hide trivial⟩
      case round =>
        obtain ⟨k, c, hk, rfl, rfl, hc1, hc2, hcq, hwq⟩ := hrel
        obtain rfl := hwq.out
        have hcb := stC_bd sl (k + 1) u v
        by_cases hkl : k + 1 < sm
        · have hk1 : k < sl.length := by rw [← hsm.out]; omega
          have hk2 : k + 1 < sl.length := by rw [← hsm.out]; omega
          obtain ⟨b, o, rfl, hbB, e0⟩ := hrow.out.int k hk1
          obtain ⟨b', o', e1, _, e2⟩ := hrow.out.int (k + 1) hk2
          simp only [Option.some.injEq, Addr.mk.injEq] at e1
          obtain ⟨rfl, rfl, _⟩ := e1
          have hss := stC_step sl k u v
          rw [show sl.getD k 0 = sl[k] by simp [List.getD, List.getElem?_eq_getElem hk1], show sl.getD (k + 1) 0 = sl[k + 1] by simp [List.getD, List.getElem?_eq_getElem hk2]] at hss
          obtain ⟨x, hxe⟩ : ∃ x, x = sl[k] := ⟨_, rfl⟩
          obtain ⟨y, hye⟩ : ∃ y, y = sl[k + 1] := ⟨_, rfl⟩
          rw [← hxe] at e0 hss
          rw [← hye] at e2 hss
          replace hxe := hide hxe
          replace hye := hide hye
          have hw1 : IntKind.i64.wrap ((k : Int) + 1 - 1) = (k : Int) := by rw [show (k : Int) + 1 - 1 = (k : Int) by omega]; exact IntWalk.i64_in _ (by omega)
          have i1 : (0 : Int) ≤ (k : Int) ∧ (k : Int) < (sm : Int) := by omega
          have i2 : (0 : Int) ≤ (k : Int) + 1 ∧ (k : Int) + 1 < (sm : Int) := by omega
          have i3 : ((k : Int) + 1).toNat = k + 1 := by omega
          have i4 : ((k : Int) + 1 - 1).toNat = k := by omega
          by_cases hx : x = (u : Int)
          · have q1 : (x == (u : Int)) = true := by simp [hx]
            by_cases hy : y = (v : Int)
            · have q2 : (y == (v : Int)) = true := by simp [hy]
              have hs2 := hide (show c + 1 = g + stC sl (k + 1) u v by rw [hss, if_pos ⟨hx.symm, hy.symm⟩, hcq.out]; omega)
              have hc3 : c + 1 ≤ 1000 := by rw [hs2.out]; omega
              replace hss := hide hss
              replace hx := hide hx
              replace hy := hide hy
              clear hcb hbd
              go_wp2
              go_roundw
              case rel => exact ⟨k + 1, c + 1, by omega, by go_num, rfl, by omega, by omega, hs2, by first | exact hide rfl | exact hide trivial⟩
              case measure => simp [intOf]; omega
            · have q2 : (y == (v : Int)) = false := by simp [hy]
              have hs2 := hide (show c = g + stC sl (k + 1) u v by rw [hss, if_neg (fun h => hy h.2.symm), hcq.out]; omega)
              clear hcb hbd
              replace hss := hide hss
              replace hx := hide hx
              replace hy := hide hy
              go_wp2
              go_roundw
              case rel => exact ⟨k + 1, c, by omega, by go_num, rfl, by omega, by omega, hs2, by first | exact hide rfl | exact hide trivial⟩
              case measure => simp [intOf]; omega
          · have q1 : (x == (u : Int)) = false := by simp [hx]
            have hs2 := hide (show c = g + stC sl (k + 1) u v by rw [hss, if_neg (fun h => hx h.1.symm), hcq.out]; omega)
            clear hcb hbd
            replace hss := hide hss
            replace hx := hide hx
            go_wp2
            go_roundw
            case rel => exact ⟨k + 1, c, by omega, by go_num, rfl, by omega, by omega, hs2, by first | exact hide rfl | exact hide trivial⟩
            case measure => simp [intOf]; omega
        · have hMn := hide (show c = gS p q (j + 1) u v by rw [hcq.out]; exact hst.out k (by have := hsm.out; omega))
          go_wp2
          go_roundw
          case rel => exact ⟨j + 1, c, by omega, by go_num, rfl, hMn, by first | exact hide rfl | exact hide trivial⟩
          case measure => simp [intOf]; omega
    · obtain rfl : j = 2 := by omega
      have hfin := hide (show g = stA p u v + stA q u v by rw [hg.out]; simp [gS])
      go_wp2
      go_ret
      exact ⟨ret_int hfin.out, rfl⟩
def RApartAns (n : Nat) (es : List Ed) (p q : List Int) (w : World) (e : Ending) (w' : World) : Prop := ∃ t : Bool, e = .returned (.bool t) ∧ (t = true ↔ ApartA n es p q) ∧ Below w.heap.size w w'
set_option maxRecDepth 100000 in
set_option maxHeartbeats 4000000 in
theorem rapart_any (n : Nat) (an : Option Addr) (cap : Nat) (es : List Ed) (pa qa : Option Addr) (pc qc : Nat) (p q : List Int) (w : World) (B : Nat) (hB : B ≤ w.heap.size) (hE : Row encE 3 w B an es) (hP : Row encI 1 w B pa p) (hQ : Row encI 1 w B qa q) (hn : n ≤ 64) (hl : es.length ≤ 600) (hWp : Walked n p) (hWq : Walked n q) :
    Calls Try.prog 78 #[.agg #[.int .i64 (n : Int), .slice an es.length cap], .slice pa p.length pc, .slice qa q.length qc] w (RApartAns n es p q w) := by
  replace hE := hide hE
  replace hP := hide hP
  replace hQ := hide hQ
  have hgb := hide (gS_bd hWp hWq 2)
  replace hWp := hide hWp
  replace hWq := hide hWq
  go_enter Try.func78, Try.ntmps78
  go_wp2
  obtain ⟨w0, h0⟩ : ∃ w0, w0 = w.alloc (.cells #[.int .i64 (n : Int), .slice an es.length cap] 24) := ⟨_, rfl⟩
  have hb0 := hide (show Below w.heap.size w w0 by rw [h0]; exact up_alloc (Below.refl _ _) (Nat.le_refl _))
  have c0 : w0.cell? ⟨w.heap.size, 0, none⟩ = some (.int .i64 (n : Int)) := by rw [h0]; simp [go_sem]
  have c1 : w0.cell? ⟨w.heap.size, 1, none⟩ = some (.slice an es.length cap) := by rw [h0]; simp [go_sem]
  have hz0 : w.heap.size < w0.heap.size := cell_lt c0
  simp only [← h0]
  replace h0 := hide h0
  go_loopw [7, 8, 9, 11, 14] (fun _ _ _ _ i wr => ∃ k : Nat, k ≤ n ∧ i = .int .i64 k ∧ Hid (∀ u v : Nat, u < k → v < n → stA p u v + stA q u v ≤ edC es es.length u v) ∧ Hid (Below w0.heap.size w0 wr)) (fun _ _ _ _ i _ => n - (intOf i).toNat)
  case atStart => exact ⟨0, Nat.zero_le _, rfl, fun u v hu => absurd hu (by omega), hide (Below.refl _ _)⟩
  case round =>
    obtain ⟨k, hk, rfl, hall, hbr⟩ := hrel
    have hzr := hbr.out.size
    have k0 := cu_below hbr.out c0 (by simpa using hz0)
    have k1 := cu_below hbr.out c1 (by simpa using hz0)
    have hzw : w.heap.size < wr.heap.size := by omega
    by_cases hlt : k < n
    · go_wp2
      clear k0 k1
      go_loopw [8, 9, 11, 19] (fun _ _ _ i wr => ∃ j : Nat, j ≤ n ∧ i = .int .i64 j ∧ Hid (∀ v : Nat, v < j → stA p k v + stA q k v ≤ edC es es.length k v) ∧ Hid (Below w0.heap.size w0 wr)) (fun _ _ _ i _ => n - (intOf i).toNat)
      case atStart => exact ⟨0, Nat.zero_le _, rfl, fun v hv => absurd hv (by omega), hbr⟩
      case round =>
        clear hbr hzr hzw
        obtain ⟨j, hj, rfl, hrow, hbr⟩ := hrel
        have hzr := hbr.out.size
        have k0 := cu_below hbr.out c0 (by simpa using hz0)
        have k1 := cu_below hbr.out c1 (by simpa using hz0)
        have hzw : w.heap.size < wr.heap.size := by omega
        by_cases hlt2 : j < n
        · go_wp2
          clear k0 k1
          go_loopw [9, 11, 25] (fun s9 _ i wr => ∃ (m : Nat) (c : Int), m ≤ es.length ∧ i = .int .i64 m ∧ s9 = .int .i64 c ∧ 0 ≤ c ∧ c ≤ 600 ∧ Hid (c = edC es m k j) ∧ Hid (Below w0.heap.size w0 wr)) (fun _ _ i _ => es.length - (intOf i).toNat)
          case atStart => exact ⟨0, 0, Nat.zero_le _, rfl, rfl, by omega, by omega, by simp [edC_zero, Hid], hbr⟩
          case round =>
            clear hbr hzr hzw
            obtain ⟨m, c, hm, rfl, rfl, hc1, hc2, hcq, hbr⟩ := hrel
            have hzr := hbr.out.size
            have hzw : w.heap.size < wr.heap.size := by omega
            have hbw := hide (hb0.out.trans (hbr.out.mono (by omega)))
            have hbn := hide (show ∀ o, Below w0.heap.size w0 (wr.alloc o) from fun o => up_alloc hbr.out hzr)
            by_cases hlt3 : m < es.length
            · obtain ⟨b, o, rfl, hbB, e0, e1, e2⟩ := hE.out.ed m hlt3
              have e0 := cu_below hbw.out e0 (by simp; omega)
              have e1 := cu_below hbw.out e1 (by simp; omega)
              have e2 := cu_below hbw.out e2 (by simp; omega)
              have hbl := cell_lt e0
              have hst := edC_step hlt3 k j
              have hcb := edC_bd es (m + 1) k j
              obtain ⟨x, hxe⟩ : ∃ x, x = es[m].u := ⟨_, rfl⟩
              obtain ⟨y, hye⟩ : ∃ y, y = es[m].v := ⟨_, rfl⟩
              obtain ⟨z, hze⟩ : ∃ z, z = es[m].c := ⟨_, rfl⟩
              rw [← hxe] at e0 hst
              rw [← hye] at e1 hst
              rw [← hze] at e2
              replace hxe := hide hxe
              replace hye := hide hye
              replace hze := hide hze
              have i1 : (0 : Int) ≤ (m : Int) ∧ (m : Int) < (es.length : Int) := by omega
              by_cases hx : x = (k : Int)
              · have q1 : (x == (k : Int)) = true := by simp [hx]
                by_cases hy : y = (j : Int)
                · have q2 : (y == (j : Int)) = true := by simp [hy]
                  have hs2 := hide (show c + 1 = edC es (m + 1) k j by rw [hst, if_pos ⟨hx.symm, hy.symm⟩, hcq.out])
                  have hc3 : c + 1 ≤ 600 := by rw [hs2.out]; omega
                  replace hst := hide hst
                  replace hx := hide hx
                  replace hy := hide hy
                  clear hcb
                  go_wp2
                  go_roundw
                  case rel => exact ⟨m + 1, c + 1, by omega, by go_num, rfl, by omega, by omega, hs2, hide (hbn.out _)⟩
                  case measure => simp [intOf]; omega
                · have q2 : (y == (j : Int)) = false := by simp [hy]
                  have hs2 := hide (show c = edC es (m + 1) k j by rw [hst, if_neg (fun h => hy h.2.symm), hcq.out]; omega)
                  replace hst := hide hst
                  replace hx := hide hx
                  replace hy := hide hy
                  clear hcb
                  go_wp2
                  go_roundw
                  case rel => exact ⟨m + 1, c, by omega, by go_num, rfl, by omega, by omega, hs2, hide (hbn.out _)⟩
                  case measure => simp [intOf]; omega
              · have q1 : (x == (k : Int)) = false := by simp [hx]
                have hs2 := hide (show c = edC es (m + 1) k j by rw [hst, if_neg (fun h => hx h.1.symm), hcq.out]; omega)
                replace hst := hide hst
                replace hx := hide hx
                clear hcb
                go_wp2
                go_roundw
                case rel => exact ⟨m + 1, c, by omega, by go_num, rfl, by omega, by omega, hs2, hide (hbn.out _)⟩
                case measure => simp [intOf]; omega
            · obtain rfl : m = es.length := by omega
              have hSt := hide (show ∀ w', Below wr.heap.size wr w' → w'.cell? ⟨wr.heap.size, 0, none⟩ = some (.slice pa p.length pc) → w'.cell? ⟨wr.heap.size, 1, none⟩ = some (.slice qa q.length qc) → Calls Try.prog 163 #[.int .i64 (k : Int), .int .i64 (j : Int), .slice (some ⟨wr.heap.size, 0, none⟩) 2 2] w' fun e w'' => e = .returned (.int .i64 (stA p k j + stA q k j)) ∧ w'' = w' from
                fun w' hb h1 h2 => steps_any n k j wr.heap.size pa qa pc qc p q w' B (by have := hb.size; omega) (hP.out.below (hbw.out.trans (hb.mono (by omega))) hB) (hQ.out.below (hbw.out.trans (hb.mono (by omega))) hB) hWp.out hWq.out h1 h2)
              have hg2 := hgb.out k j
              have hge : gS p q 2 k j = stA p k j + stA q k j := by simp [gS]
              rw [hge] at hg2
              have hle := hide (show c = edC es es.length k j from hcq.out)
              obtain ⟨s, hs⟩ : ∃ s, s = stA p k j + stA q k j := ⟨_, rfl⟩
              rw [← hs] at hg2 hSt
              replace hs := hide hs
              replace hge := hide hge
              go_wp2_with fail
              refine (hSt.out _ (by exact (Below.refl _ _).alloc (Nat.le_refl _) _) (by simp [go_sem]) (by simp [go_sem])).mono ?_
              rintro e w5 ⟨rfl, rfl⟩
              by_cases hgt : c < s
              · have hna := hide (show ¬ ApartA n es p q from fun ha => by
                  have h1 := ha k j hlt hlt2
                  rw [← hs.out, ← hle.out] at h1
                  omega)
                clear hSt
                go_wp2
                go_ret
                exact ⟨false, rfl, by simpa using hna.out, hb0.out.trans ((hbn.out _).mono (by omega))⟩
              · have hrow2 := hide (show ∀ v : Nat, v < j + 1 → stA p k v + stA q k v ≤ edC es es.length k v from fun v hv => by
                  by_cases hvj : v = j
                  · subst hvj; rw [← hs.out, ← hle.out]; omega
                  · exact hrow.out v (by omega))
                clear hSt
                go_wp2
                go_roundw
                case rel => exact ⟨j + 1, by omega, by go_num, hrow2, hide (hbn.out _)⟩
                case measure => simp [intOf]; omega
        · obtain rfl : j = n := by omega
          have hall2 := hide (show ∀ u v : Nat, u < k + 1 → v < j → stA p u v + stA q u v ≤ edC es es.length u v from fun u v hu hv => by
            by_cases huk : u = k
            · subst huk; exact hrow.out v hv
            · exact hall.out u v (by omega) hv)
          go_wp2
          go_roundw
          case rel => exact ⟨k + 1, by omega, by go_num, hall2, hbr⟩
          case measure => simp [intOf]; omega
    · obtain rfl : k = n := by omega
      have hbw := hide (hb0.out.trans (hbr.out.mono (by omega)))
      go_wp2
      go_ret
      exact ⟨true, rfl, by simpa [ApartA] using hall.out, hbw.out⟩
end Go.Proofs.Ytcehdpeeaogpiaa
