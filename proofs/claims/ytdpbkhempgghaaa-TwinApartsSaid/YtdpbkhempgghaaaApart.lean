/-
  What twin.Apart returns: whether two walks share no edge. Conditions: the arguments read.
-/
import Derived.Test.YtdpbkhempgghaaaTwP
import Derived.Test.YtdpbkhempgghaaaWWalkCosts
namespace Go.Proofs.Ytdpbkhempgghaaa
open Go.RowKit Go.Maps
set_option linter.unusedSimpArgs false
set_option linter.unusedVariables false
/-- steps of the first j walks -/
def gS (a b : List Int) (j : Nat) (u v : Int) : Int := (if 1 ≤ j then stA a u v else 0) + (if 2 ≤ j then stA b u v else 0)
def selW (a b : List Int) (j : Nat) : List Int := if j = 0 then a else b
theorem gS_zero (a b : List Int) : gS a b 0 = fun _ _ => 0 := by funext u v; simp [gS]
theorem gS_start (a b : List Int) (j : Nat) : (fun u v => gS a b j u v + stC (selW a b j) 0 u v) = gS a b j := by funext u v; rw [stC_zero]; simp
theorem gS_step (a b : List Int) {j : Nat} (hj : j < 2) {k : Nat} (hk : k = (selW a b j).length - 1) : (fun u v => gS a b j u v + stC (selW a b j) k u v) = gS a b (j + 1) := by
  funext u v
  subst hk
  obtain rfl | rfl : j = 0 ∨ j = 1 := by omega
  · simp [gS, selW, stA]
  · simp [gS, selW, stA]
theorem gS_bd {n : Nat} {a b : List Int} (ha : Walked n a) (hb : Walked n b) (j : Nat) (u v : Int) : 0 ≤ gS a b j u v ∧ gS a b j u v ≤ 200 := by
  have h1 := stC_bd a (a.length - 1) u v
  have h2 := stC_bd b (b.length - 1) u v
  have h3 := ha.2.1
  have h4 := hb.2.1
  unfold gS stA
  constructor <;> (split <;> split <;> omega)
set_option maxRecDepth 100000 in
set_option maxHeartbeats 1000000 in
theorem apart_bad1 (N : Int) (an : Option Addr) (cap : Nat) (es : List Ed) (pa qa : Option Addr) (pc qc : Nat) (p q : List Int) (w : World) (B : Nat) (hB : B ≤ w.heap.size) (hE : Row encE 3 w B an es) (hP : Row encI 1 w B pa p) (hl : es.length ≤ 9223372036854775807) (hlp : p.length ≤ 9223372036854775807) (h0 : (wcost N es p).2 ≠ 0) :
    Calls Try.prog 25 #[.agg #[.int .i64 N, .slice an es.length cap], .slice pa p.length pc, .slice qa q.length qc] w fun e w' => e = .returned (.tuple #[.bool false, .int .i64 (wcost N es p).2]) ∧ Below w.heap.size w w' := by
  have hC := hide (fun w B hB hE hP => wcost_any N an cap es pa pc p w B hB hE hP hl hlp)
  obtain ⟨v, hv⟩ : ∃ v, v = wcost N es p := ⟨_, rfl⟩
  obtain ⟨v1, v2⟩ := v
  rw [← hv] at hC h0 ⊢
  have q0 : (v2 != 0) = true := by simpa using h0
  replace hv := hide hv
  replace hE := hide hE
  replace hP := hide hP
  clear h0
  go_enter Try.func25, Try.ntmps25
  go_wp2_with fail
  refine (hC.out _ B (by simp <;> omega) (hE.out.below ((by repeat (first | with_reducible exact Below.refl _ _ | with_reducible assumption | with_reducible refine up_drewN ?_ | with_reducible refine up_drew ?_ | (with_reducible refine up_alloc ?_ ?_; rotate_left; (first | omega | (simp <;> omega) | simp)) | (with_reducible refine up_set ?_ ?_; rotate_left; (first | omega | (simp <;> omega) | simp)) | (with_reducible refine Below.trans ?_ (Below.mono (by with_reducible assumption) ?_); rotate_left; (first | omega | (simp <;> omega) | simp)))) : Below w.heap.size w _) hB) (hP.out.below ((by repeat (first | with_reducible exact Below.refl _ _ | with_reducible assumption | with_reducible refine up_drewN ?_ | with_reducible refine up_drew ?_ | (with_reducible refine up_alloc ?_ ?_; rotate_left; (first | omega | (simp <;> omega) | simp)) | (with_reducible refine up_set ?_ ?_; rotate_left; (first | omega | (simp <;> omega) | simp)) | (with_reducible refine Below.trans ?_ (Below.mono (by with_reducible assumption) ?_); rotate_left; (first | omega | (simp <;> omega) | simp)))) : Below w.heap.size w _) hB)).mono ?_
  rintro e w1 ⟨rfl, hb1⟩
  clear hC
  go_wp2
  go_ret2
  exact ⟨rfl, (by repeat (first | with_reducible exact Below.refl _ _ | with_reducible assumption | with_reducible refine up_drewN ?_ | with_reducible refine up_drew ?_ | (with_reducible refine up_alloc ?_ ?_; rotate_left; (first | omega | (simp <;> omega) | simp)) | (with_reducible refine up_set ?_ ?_; rotate_left; (first | omega | (simp <;> omega) | simp)) | (with_reducible refine Below.trans ?_ (Below.mono (by with_reducible assumption) ?_); rotate_left; (first | omega | (simp <;> omega) | simp))))⟩
set_option maxRecDepth 100000 in
set_option maxHeartbeats 1000000 in
theorem apart_bad2 (N : Int) (an : Option Addr) (cap : Nat) (es : List Ed) (pa qa : Option Addr) (pc qc : Nat) (p q : List Int) (w : World) (B : Nat) (hB : B ≤ w.heap.size) (hE : Row encE 3 w B an es) (hP : Row encI 1 w B pa p) (hQ : Row encI 1 w B qa q) (hl : es.length ≤ 9223372036854775807) (hlp : p.length ≤ 9223372036854775807) (hlq : q.length ≤ 9223372036854775807) (h0 : (wcost N es p).2 = 0) (h1 : (wcost N es q).2 ≠ 0) :
    Calls Try.prog 25 #[.agg #[.int .i64 N, .slice an es.length cap], .slice pa p.length pc, .slice qa q.length qc] w fun e w' => e = .returned (.tuple #[.bool false, .int .i64 (wcost N es q).2]) ∧ Below w.heap.size w w' := by
  have hC := hide (fun w B hB hE hP => wcost_any N an cap es pa pc p w B hB hE hP hl hlp)
  have hD := hide (fun w B hB hE hP => wcost_any N an cap es qa qc q w B hB hE hP hl hlq)
  obtain ⟨v, hv⟩ : ∃ v, v = wcost N es p := ⟨_, rfl⟩
  obtain ⟨v1, v2⟩ := v
  obtain ⟨u, hu⟩ : ∃ v, v = wcost N es q := ⟨_, rfl⟩
  obtain ⟨u1, u2⟩ := u
  rw [← hv] at hC h0
  rw [← hu] at hD h1 ⊢
  simp only at h0
  subst h0
  have q0 : (u2 != 0) = true := by simpa using h1
  replace hv := hide hv
  replace hu := hide hu
  replace hE := hide hE
  replace hP := hide hP
  replace hQ := hide hQ
  clear h1
  go_enter Try.func25, Try.ntmps25
  go_wp2_with fail
  refine (hC.out _ B (by simp <;> omega) (hE.out.below ((by repeat (first | with_reducible exact Below.refl _ _ | with_reducible assumption | with_reducible refine up_drewN ?_ | with_reducible refine up_drew ?_ | (with_reducible refine up_alloc ?_ ?_; rotate_left; (first | omega | (simp <;> omega) | simp)) | (with_reducible refine up_set ?_ ?_; rotate_left; (first | omega | (simp <;> omega) | simp)) | (with_reducible refine Below.trans ?_ (Below.mono (by with_reducible assumption) ?_); rotate_left; (first | omega | (simp <;> omega) | simp)))) : Below w.heap.size w _) hB) (hP.out.below ((by repeat (first | with_reducible exact Below.refl _ _ | with_reducible assumption | with_reducible refine up_drewN ?_ | with_reducible refine up_drew ?_ | (with_reducible refine up_alloc ?_ ?_; rotate_left; (first | omega | (simp <;> omega) | simp)) | (with_reducible refine up_set ?_ ?_; rotate_left; (first | omega | (simp <;> omega) | simp)) | (with_reducible refine Below.trans ?_ (Below.mono (by with_reducible assumption) ?_); rotate_left; (first | omega | (simp <;> omega) | simp)))) : Below w.heap.size w _) hB)).mono ?_
  rintro e w1 ⟨rfl, hb1⟩
  have k0 : w1.cell? ⟨w.heap.size, 0, none⟩ = some (.int .i64 N) := cu_below hb1 (by simp [go_sem]) (by simp <;> omega)
  have k1 : w1.cell? ⟨w.heap.size, 1, none⟩ = some (.slice an es.length cap) := cu_below hb1 (by simp [go_sem]) (by simp <;> omega)
  have hz1 : w.heap.size < w1.heap.size := cell_lt k0
  have hbw1 := hide (show Below w.heap.size w w1 from (by repeat (first | with_reducible exact Below.refl _ _ | with_reducible assumption | with_reducible refine up_drewN ?_ | with_reducible refine up_drew ?_ | (with_reducible refine up_alloc ?_ ?_; rotate_left; (first | omega | (simp <;> omega) | simp)) | (with_reducible refine up_set ?_ ?_; rotate_left; (first | omega | (simp <;> omega) | simp)) | (with_reducible refine Below.trans ?_ (Below.mono (by with_reducible assumption) ?_); rotate_left; (first | omega | (simp <;> omega) | simp)))))
  clear hC hb1
  go_wp2_with fail
  refine (hD.out _ B (by omega) (hE.out.below hbw1.out hB) (hQ.out.below hbw1.out hB)).mono ?_
  rintro e w2 ⟨rfl, hb2⟩
  have hbw2 := hide (hbw1.out.trans (hb2.mono (by omega)))
  clear hD hb2
  go_wp2
  go_ret2
  exact ⟨rfl, hbw2.out⟩
def ApartAns (n : Nat) (es : List Ed) (p q : List Int) (w : World) (e : Ending) (w' : World) : Prop := ∃ t : Bool, e = .returned (.tuple #[.bool t, .int .i64 0]) ∧ (t = true ↔ ApartA n es p q) ∧ Below w.heap.size w w'
set_option maxRecDepth 100000 in
set_option maxHeartbeats 4000000 in
theorem apart_ok (n : Nat) (an : Option Addr) (cap : Nat) (es : List Ed) (pa qa : Option Addr) (pc qc : Nat) (p q : List Int) (w : World) (B : Nat) (hB : B ≤ w.heap.size) (hE : Row encE 3 w B an es) (hP : Row encI 1 w B pa p) (hQ : Row encI 1 w B qa q) (hl : es.length ≤ 9223372036854775807) (hlp : p.length ≤ 9223372036854775807) (hlq : q.length ≤ 9223372036854775807) (h0 : (wcost (n : Int) es p).2 = 0) (h1 : (wcost (n : Int) es q).2 = 0) :
    Calls Try.prog 25 #[.agg #[.int .i64 (n : Int), .slice an es.length cap], .slice pa p.length pc, .slice qa q.length qc] w (ApartAns n es p q w) := by
  obtain ⟨hne, hWp⟩ := wcost_walked h0
  obtain ⟨-, hWq⟩ := wcost_walked h1
  obtain ⟨n1, n2, n3, hes⟩ := netErr_ok hne
  replace hes : Right n es := hes
  have hn : n ≤ 64 := by omega
  have hC := hide (fun w B hB hE hP => wcost_any (n : Int) an cap es pa pc p w B hB hE hP hl hlp)
  have hD := hide (fun w B hB hE hP => wcost_any (n : Int) an cap es qa qc q w B hB hE hP hl hlq)
  obtain ⟨v, hv⟩ : ∃ v, v = wcost (n : Int) es p := ⟨_, rfl⟩
  obtain ⟨v1, v2⟩ := v
  obtain ⟨u, hu⟩ : ∃ v, v = wcost (n : Int) es q := ⟨_, rfl⟩
  obtain ⟨u1, u2⟩ := u
  rw [← hv] at hC h0
  rw [← hu] at hD h1
  simp only at h0 h1
  subst h0 h1
  have hmm := @run_makeMap Try.prog
  replace hv := hide hv
  replace hu := hide hu
  replace hE := hide hE
  replace hP := hide hP
  replace hQ := hide hQ
  replace hWp := hide hWp
  replace hWq := hide hWq
  replace hes := hide hes
  clear hne
  go_enter Try.func25, Try.ntmps25
  go_wp2_with fail
  refine (hC.out _ B (by simp <;> omega) (hE.out.below ((by repeat (first | with_reducible exact Below.refl _ _ | with_reducible assumption | with_reducible refine up_drewN ?_ | with_reducible refine up_drew ?_ | (with_reducible refine up_alloc ?_ ?_; rotate_left; (first | omega | (simp <;> omega) | simp)) | (with_reducible refine up_set ?_ ?_; rotate_left; (first | omega | (simp <;> omega) | simp)) | (with_reducible refine Below.trans ?_ (Below.mono (by with_reducible assumption) ?_); rotate_left; (first | omega | (simp <;> omega) | simp)))) : Below w.heap.size w _) hB) (hP.out.below ((by repeat (first | with_reducible exact Below.refl _ _ | with_reducible assumption | with_reducible refine up_drewN ?_ | with_reducible refine up_drew ?_ | (with_reducible refine up_alloc ?_ ?_; rotate_left; (first | omega | (simp <;> omega) | simp)) | (with_reducible refine up_set ?_ ?_; rotate_left; (first | omega | (simp <;> omega) | simp)) | (with_reducible refine Below.trans ?_ (Below.mono (by with_reducible assumption) ?_); rotate_left; (first | omega | (simp <;> omega) | simp)))) : Below w.heap.size w _) hB)).mono ?_
  rintro e w1 ⟨rfl, hb1⟩
  have k0 : w1.cell? ⟨w.heap.size, 0, none⟩ = some (.int .i64 (n : Int)) := cu_below hb1 (by simp [go_sem]) (by simp <;> omega)
  have k1 : w1.cell? ⟨w.heap.size, 1, none⟩ = some (.slice an es.length cap) := cu_below hb1 (by simp [go_sem]) (by simp <;> omega)
  have hz1 : w.heap.size < w1.heap.size := cell_lt k0
  have hbw1 := hide (show Below w.heap.size w w1 from (by repeat (first | with_reducible exact Below.refl _ _ | with_reducible assumption | with_reducible refine up_drewN ?_ | with_reducible refine up_drew ?_ | (with_reducible refine up_alloc ?_ ?_; rotate_left; (first | omega | (simp <;> omega) | simp)) | (with_reducible refine up_set ?_ ?_; rotate_left; (first | omega | (simp <;> omega) | simp)) | (with_reducible refine Below.trans ?_ (Below.mono (by with_reducible assumption) ?_); rotate_left; (first | omega | (simp <;> omega) | simp)))))
  clear hC hb1
  go_wp2_with fail
  refine (hD.out _ B (by omega) (hE.out.below hbw1.out hB) (hQ.out.below hbw1.out hB)).mono ?_
  rintro e w2 ⟨rfl, hb2⟩
  have k2 := cu_below hb2 k0 (by simp; omega)
  have k3 := cu_below hb2 k1 (by simp; omega)
  have hz2 : w.heap.size < w2.heap.size := cell_lt k2
  have hbw2 := hide (hbw1.out.trans (hb2.mono (by omega)))
  clear hD hb2 k0 k1 hbw1
  go_wp2
  obtain ⟨wS, hwS⟩ : ∃ wS, wS = (w2.alloc (.map #[] 0)).alloc (.cells #[.slice pa p.length pc, .slice qa q.length qc] 22) := ⟨_, rfl⟩
  have hM0 := hide (show PMap wS w2.heap.size 0 (gS p q 0) by rw [hwS, gS_zero]; exact (PMap.made w2).alloc _)
  have hbS := hide (show Below w.heap.size w wS by rw [hwS]; exact up_alloc (up_alloc hbw2.out (by omega)) (by simp; omega))
  have c0 : wS.cell? ⟨w2.heap.size + 1, 0, none⟩ = some (.slice pa p.length pc) := by rw [hwS]; simp [go_sem]
  have c1 : wS.cell? ⟨w2.heap.size + 1, 1, none⟩ = some (.slice qa q.length qc) := by rw [hwS]; simp [go_sem]
  have k0 : wS.cell? ⟨w.heap.size, 0, none⟩ = some (.int .i64 (n : Int)) := by rw [hwS]; exact cu_alloc (cu_alloc k2)
  have k1 : wS.cell? ⟨w.heap.size, 1, none⟩ = some (.slice an es.length cap) := by rw [hwS]; exact cu_alloc (cu_alloc k3)
  simp only [← hwS]
  replace hwS := hide hwS
  obtain ⟨bN, hbN⟩ : ∃ bN, bN = w2.heap.size := ⟨_, rfl⟩
  rw [← hbN] at hM0 c0 c1
  simp only [← hbN]
  have hwN : w.heap.size < bN := by omega
  have hNS : bN + 1 < wS.heap.size := cell_lt c0
  replace hbN := hide hbN
  clear k2 k3
  go_loopw [14, 15, 44] (fun _ _ i wr => ∃ j : Nat, j ≤ 2 ∧ i = .int .i64 j ∧ Hid (PMap wr bN (100 * j) (gS p q j)) ∧ Hid (Keep (fun x => x = bN) wS wr)) (fun _ _ i _ => 2 - (intOf i).toNat)
  case atStart => exact ⟨0, by omega, rfl, hM0, hide (Keep.refl _ _)⟩
  case round =>
    clear hM0
    obtain ⟨j, hj, rfl, hM, hK⟩ := hrel
    by_cases hlt : j < 2
    · have d0 := hK.out.cu c0 (by simp)
      have d1 := hK.out.cu c1 (by simp)
      obtain ⟨ps, sl, sc, hcell, hrow, hsl, hWs⟩ : ∃ (ps : Option Addr) (l : List Int) (sc : Nat), wr.cell? ⟨bN + 1, j, none⟩ = some (.slice ps l.length sc) ∧ Row encI 1 w B ps l ∧ l = selW p q j ∧ Walked n l := by
        obtain rfl | rfl : j = 0 ∨ j = 1 := by omega
        · exact ⟨pa, p, pc, d0, hP.out, rfl, hWp.out⟩
        · exact ⟨qa, q, qc, d1, hQ.out, rfl, hWq.out⟩
      have hlb : bN + 1 < wr.heap.size := cell_lt hcell
      have hst := hide (show ∀ k, k = sl.length - 1 → (fun u v => gS p q j u v + stC sl k u v) = gS p q (j + 1) from fun k hk => by subst hsl; exact gS_step p q hlt hk)
      have hbd := hide (show ∀ u v, 0 ≤ gS p q j u v ∧ gS p q j u v ≤ 200 from gS_bd hWp.out hWq.out j)
      have hM1 := hide (show PMap wr bN (100 * j + 0) (fun u v => gS p q j u v + stC sl 0 u v) by rw [show (fun u v => gS p q j u v + stC sl 0 u v) = gS p q j by rw [hsl]; exact gS_start p q j]; exact hM.out)
      have hl1 := hWs.1
      have hl2 := hWs.2.1
      replace hrow := hide hrow
      replace hsl := hide hsl
      replace hWs := hide hWs
      obtain ⟨sm, hsm⟩ : ∃ sm, sm = sl.length := ⟨_, rfl⟩
      rw [← hsm] at hcell hl1 hl2
      replace hsm := hide hsm
      have ij : (0 : Int) ≤ (j : Int) ∧ (j : Int) < 2 := by omega
      clear d0 d1 hM
      go_wp2
      clear hcell
      go_loopw [15] (fun i wr => ∃ k : Nat, k + 1 ≤ sm ∧ i = .int .i64 ((k : Int) + 1) ∧ Hid (PMap wr bN (100 * j + k) (fun u v => gS p q j u v + stC sl k u v)) ∧ Hid (Keep (fun x => x = bN) wS wr)) (fun i _ => sm - (intOf i).toNat)
      case atStart => exact ⟨0, by omega, rfl, hM1, hK⟩
      case round =>
        clear hM1 hK
        obtain ⟨k, hk, rfl, hM, hK⟩ := hrel
        have hbr := hide (hbS.out.trans (hK.out.toBelow (B := w.heap.size) (fun x hx => by omega) (by omega)))
        by_cases hkl : k + 1 < sm
        · have hk1 : k < sl.length := by rw [← hsm.out]; omega
          have hk2 : k + 1 < sl.length := by rw [← hsm.out]; omega
          obtain ⟨b, o, rfl, hbB, e0⟩ := hrow.out.int k hk1
          obtain ⟨b', o', e1, _, e2⟩ := hrow.out.int (k + 1) hk2
          simp only [Option.some.injEq, Addr.mk.injEq] at e1
          obtain ⟨rfl, rfl, _⟩ := e1
          have e0 := cu_below hbr.out e0 (by simp; omega)
          have e2 := cu_below hbr.out e2 (by simp; omega)
          have hbl := cell_lt e0
          have hx := hWs.out.2.2 sl[k] (List.getElem_mem _)
          have hy := hWs.out.2.2 sl[k + 1] (List.getElem_mem _)
          have hss := hide (sum_step (gS p q j) sl k)
          rw [show sl.getD k 0 = sl[k] by simp [List.getD, List.getElem?_eq_getElem hk1], show sl.getD (k + 1) 0 = sl[k + 1] by simp [List.getD, List.getElem?_eq_getElem hk2]] at hss
          obtain ⟨x, hxe⟩ : ∃ x, x = sl[k] := ⟨_, rfl⟩
          obtain ⟨y, hye⟩ : ∃ y, y = sl[k + 1] := ⟨_, rfl⟩
          rw [← hxe] at e0 hx hss
          rw [← hye] at e2 hy hss
          replace hxe := hide hxe
          replace hye := hide hye
          have hc1 := hbd.out x y
          have hc2 := stC_bd sl k x y
          obtain ⟨hlook, v0, st, W1, W2, hent, hlook2, hsto, hM2, hg2⟩ := (hM.out.drew).bumps 104 Try.underlying104 (by omega) (x := x) (y := y) (by unfold Bd; omega) (by unfold Bd; omega) (by unfold Bd; omega)
          rw [hss.out] at hM2
          replace hM2 := hide hM2
          have hK2 := hide (hK.out.drew.grown hg2 (fun z hz => by cases hz; exact .inl rfl))
          obtain ⟨c, hc⟩ : ∃ c, c = gS p q j x y + stC sl k x y := ⟨_, rfl⟩
          simp only [← hc] at hlook hlook2 hsto
          have hcb : 0 ≤ c ∧ c ≤ 300 := by omega
          replace hc := hide hc
          have hw1 : IntKind.i64.wrap ((k : Int) + 1 - 1) = (k : Int) := by rw [show (k : Int) + 1 - 1 = (k : Int) by omega]; exact IntWalk.i64_in _ (by omega)
          have i1 : (0 : Int) ≤ (k : Int) ∧ (k : Int) < (sm : Int) := by omega
          have i2 : (0 : Int) ≤ (k : Int) + 1 ∧ (k : Int) + 1 < (sm : Int) := by omega
          have i3 : ((k : Int) + 1).toNat = k + 1 := by omega
          have i4 : ((k : Int) + 1 - 1).toNat = k := by omega
          clear hc1 hc2 hg2
          go_wp2
          go_region
          go_wp2
          go_roundw
          case rel => exact ⟨k + 1, by omega, by go_num, hM2, hK2⟩
          case measure => simp [intOf]; omega
        · have hMn := hide (show PMap wr bN (100 * (j + 1)) (gS p q (j + 1)) by rw [← hst.out k (by have := hsm.out; omega)]; exact hM.out.mono (by omega))
          go_wp2
          go_roundw
          case rel => exact ⟨j + 1, by omega, by go_num, hMn, hK⟩
          case measure => simp [intOf]; omega
    · obtain rfl : j = 2 := by omega
      have g0 := hK.out.cu k0 (by simp; omega)
      have g1 := hK.out.cu k1 (by simp; omega)
      have hzr := hK.out.size
      have hlr : w.heap.size < wr.heap.size := cell_lt g0
      have hbr := hide (hbS.out.trans (hK.out.toBelow (B := w.heap.size) (fun x hx => by omega) (by omega)))
      have hnl := hM.out.lt
      clear c0 c1 k0 k1 hK hNS
      go_wp2
      obtain ⟨wT, hwT⟩ : ∃ wT, wT = wr.alloc (.map #[] 0) := ⟨_, rfl⟩
      obtain ⟨bH, hbH⟩ : ∃ bH, bH = wr.heap.size := ⟨_, rfl⟩
      have hH0 := hide (show PMap wT bH 0 (edC es 0) by rw [hwT, hbH, edC_zero]; exact PMap.made wr)
      have hMT := hide (show PMap wT bN 200 (gS p q 2) by rw [hwT]; exact hM.out.alloc _)
      have hbT := hide (show Below w.heap.size w wT by rw [hwT]; exact up_alloc hbr.out (by omega))
      have k0 : wT.cell? ⟨w.heap.size, 0, none⟩ = some (.int .i64 (n : Int)) := by rw [hwT]; exact cu_alloc g0
      have k1 : wT.cell? ⟨w.heap.size, 1, none⟩ = some (.slice an es.length cap) := by rw [hwT]; exact cu_alloc g1
      simp only [← hwT]
      replace hwT := hide hwT
      have hwH : w.heap.size < bH := by omega
      have hNH : bN < bH := by omega
      have hHT : bH < wT.heap.size := hH0.out.lt
      have hlT := cell_lt k0
      simp only [← hbH]
      replace hbH := hide hbH
      clear g0 g1 hM hzr hnl hbr
      go_loopw [18, 74] (fun _ i wr => ∃ k : Nat, k ≤ es.length ∧ i = .int .i64 k ∧ Hid (PMap wr bH k (edC es k)) ∧ Hid (Keep (fun x => x = bH) wT wr)) (fun _ i _ => es.length - (intOf i).toNat)
      case atStart => exact ⟨0, Nat.zero_le _, rfl, hH0, hide (Keep.refl _ _)⟩
      case round =>
        clear hH0
        obtain ⟨k, hk, rfl, hH, hK⟩ := hrel
        have hbr := hide (hbT.out.trans (hK.out.toBelow (B := w.heap.size) (fun x hx => by omega) (by omega)))
        have hzr := hK.out.size
        by_cases hkl : k < es.length
        · have g1 := hK.out.cu k1 (by simp; omega)
          obtain ⟨b, o, rfl, hbB, e0, e1, e2⟩ := hE.out.ed k hkl
          have e0 := cu_below hbr.out e0 (by simp; omega)
          have e1 := cu_below hbr.out e1 (by simp; omega)
          have e2 := cu_below hbr.out e2 (by simp; omega)
          have hbl := cell_lt e0
          have hlr : w.heap.size < wr.heap.size := by omega
          have hr := hes.out _ (List.getElem_mem hkl)
          have hup := ed_up hkl
          obtain ⟨x, hxe⟩ : ∃ x, x = es[k].u := ⟨_, rfl⟩
          obtain ⟨y, hye⟩ : ∃ y, y = es[k].v := ⟨_, rfl⟩
          obtain ⟨z, hze⟩ : ∃ z, z = es[k].c := ⟨_, rfl⟩
          rw [← hxe] at e0 hr hup
          rw [← hye] at e1 hr hup
          rw [← hze] at e2 hr
          replace hxe := hide hxe
          replace hye := hide hye
          replace hze := hide hze
          have hc1 := edC_bd es k x y
          obtain ⟨hlook, v0, st, W1, W2, hent, hlook2, hsto, hM2, hg2⟩ := ((hH.out.alloc (.cells #[.int .i64 x, .int .i64 y, .int .i64 z] 40)).drew).bumps 104 Try.underlying104 (by omega) (x := x) (y := y) (by unfold Bd; omega) (by unfold Bd; omega) (by unfold Bd; omega)
          rw [hup] at hM2
          replace hup := hide hup
          replace hM2 := hide hM2
          have hK2 := hide (((hK.out.alloc (.cells #[.int .i64 x, .int .i64 y, .int .i64 z] 40)).drew).grown hg2 (fun z hz => by cases hz; exact .inl rfl))
          obtain ⟨c, hc⟩ : ∃ c, c = edC es k x y := ⟨_, rfl⟩
          simp only [← hc] at hlook hlook2 hsto
          have hcb : 0 ≤ c ∧ c ≤ 600 := by omega
          replace hc := hide hc
          have i1 : (0 : Int) ≤ (k : Int) ∧ (k : Int) < (es.length : Int) := by omega
          clear hc1 hg2 hr
          go_wp2
          go_region
          go_wp2
          refine ⟨?_, ?measure⟩
          repeat apply Exists.intro
          refine ⟨?rel, rfl⟩
          case rel => exact ⟨k + 1, by omega, by go_num, hM2, hK2⟩
          case measure => simp [intOf]; omega
        · obtain rfl : k = es.length := by omega
          have hMN := hide (hMT.out.block (hK.out.block bN (by omega) (by omega)))
          obtain ⟨wU, rfl⟩ : ∃ wU : World, wU = wr := ⟨_, rfl⟩
          have hHl := hH.out.lt
          have hNl := hMN.out.lt
          clear k0 k1 hK
          go_wp2_with (at_range; refine wpList_pmap_range rfl (.tmp 89) 104 rfl Try.underlying104 hMN.out rfl ?_; intro w0 left0 cnt0 hrg0 hl0 hg0 hs0)
          have hHU := hide (hH.out.block (w' := w0) (hg0.block bH hHl (by simp)))
          have hb0 := hide (hbr.out.trans ((Below.refl _ _ |>.grown hg0 (Nat.le_refl _) (fun j hj => by cases hj) : Below wU.heap.size wU w0).mono (by omega)))
          obtain ⟨r, hr⟩ : ∃ r, r = wU.heap.size := ⟨_, rfl⟩
          rw [← hr] at hrg0
          simp only [← hr]
          have hHr : bH < r := by omega
          have hr0 : r < w0.heap.size := by omega
          have hwr : w.heap.size < r := by omega
          replace hr := hide hr
          replace hrg0 := hide hrg0
          replace hg0 := hide hg0
          replace hl0 := hide (show ∀ x y, Bd x → Bd y → left0 (kp x y) = false → gS p q 2 x y ≤ edC es es.length x y from fun x y hx hy hl => by rw [hl0 x y hx hy hl]; exact (edC_bd es es.length x y).1)
          clear hs0 hH hMN hMT hbr hzr
          go_loopw [19, 20] (fun _ _ wr => ∃ (left : Lit → Bool) (cnt : Nat), Hid (PRng wr bN r 200 (gS p q 2) left cnt) ∧ Hid (∀ x y, Bd x → Bd y → left (kp x y) = false → gS p q 2 x y ≤ edC es es.length x y) ∧ Hid (Keep (fun z => z = r) w0 wr)) (fun _ _ wr => wr.rangeLeft bN r)
          case atStart => exact ⟨left0, cnt0, hrg0, hl0, hide (Keep.refl _ _)⟩
          case round =>
            clear hrg0 hl0
            obtain ⟨left, cnt, hrg, hlf, hK⟩ := hrel
            have hzr := hK.out.size
            have hbr := hide (hb0.out.trans (hK.out.toBelow (B := w.heap.size) (fun x hx => by omega) (by omega)))
            go_wp2_with (at_next; refine wpList_pmap_next rfl (.tmp 90) rfl rfl hrg.out ?_ ?_)
            · intro hdone
              have hall := hide (show ApartA n es p q from fun u v hu hv => by
                have := hlf.out (u : Int) (v : Int) (by unfold Bd; omega) (by unfold Bd; omega) (hdone _ _)
                simpa [gS] using this)
              replace hdone := hide hdone
              go_wp2
              go_ret2
              exact ⟨true, rfl, by simpa using hall.out, hbr.out⟩
            · intro x y w3 left' cnt' bx by' bf hrg' hl' hlt3 hg3 hs3 hen
              have hb3 := hide (hbr.out.grown hg3 hbr.out.size (fun z hz => by cases hz; omega))
              have hK3 := hide (hK.out.grown hg3 (fun z hz => by cases hz; exact .inl rfl))
              have hH3 := hHU.out.block (w' := w3) (hK3.out.block bH (by omega) (by omega))
              have hlook := (hH3.alloc (.cells #[.int .i64 x, .int .i64 y] 106)).look 104 Try.underlying104 bx by'
              have hlq := hide (show ∀ u v, Bd u → Bd v → gS p q 2 x y ≤ edC es es.length x y → left' (kp u v) = false → gS p q 2 u v ≤ edC es es.length u v from fun u v hu hv hle hl => by
                rcases hl' u v hu hv hl with h | ⟨rfl, rfl⟩
                · exact hlf.out u v hu hv h
                · exact hle)
              have hno := hide (show ¬ gS p q 2 x y ≤ edC es es.length x y → ¬ ApartA n es p q from fun h ha => h (by
                by_cases hin : 0 ≤ x ∧ x < n ∧ 0 ≤ y ∧ y < n
                · have := ha x.toNat y.toNat (by omega) (by omega)
                  rw [show ((x.toNat : Nat) : Int) = x by omega, show ((y.toNat : Nat) : Int) = y by omega] at this
                  simpa [gS] using this
                · have h1 := stA_out hWp.out hin
                  have h2 := stA_out hWq.out hin
                  have h3 := (edC_bd es es.length x y).1
                  simp only [gS]
                  simp
                  omega))
              have hms := hide (show ∀ o, (w3.alloc o).rangeLeft bN r < wr.rangeLeft bN r from fun o => by rw [(hrg'.alloc o).left_eq, hrg.out.left_eq]; exact hlt3)
              replace hrg' := hide hrg'
              replace hl' := hide hl'
              replace hg3 := hide hg3
              replace bx := hide bx
              replace by' := hide by'
              replace bf := hide bf
              have hz3 : wr.heap.size ≤ w3.heap.size := by omega
              obtain ⟨f1, hf1⟩ : ∃ f1, f1 = gS p q 2 x y := ⟨_, rfl⟩
              obtain ⟨f2, hf2⟩ : ∃ f2, f2 = edC es es.length x y := ⟨_, rfl⟩
              rw [← hf1, ← hf2] at hlq hno
              rw [← hf1] at hen
              rw [← hf2] at hlook
              simp only [← hf1]
              replace hf1 := hide hf1
              replace hf2 := hide hf2
              clear hH3 hlt3 hs3 hlf
              by_cases hgt : f2 < f1
              · have hna := hide (hno.out (by omega))
                clear hlq hno
                go_wp2
                go_ret2
                exact ⟨false, rfl, by simpa using hna.out, up_alloc hb3.out (by omega)⟩
              · have hlq2 := hide (fun u v hu hv => hlq.out u v hu hv (by omega))
                clear hlq hno
                go_wp2
                go_roundw
                case rel => exact ⟨left', cnt', hide (hrg'.out.alloc _), hlq2, hide (hK3.out.alloc _)⟩
                case measure => exact hms.out _
end Go.Proofs.Ytdpbkhempgghaaa
