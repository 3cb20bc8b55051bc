/-
  What bell.Relax does: costs that give way edge by edge, in place. Conditions: a right net, costs within bounds.
-/
import Derived.Test.YtgkiipmeigfjnaaLI
import Derived.Test.YtgkiipmeigfjnaaEdge
import Derived.BigQuiet
import Derived.Deep.QuietTactic
import Derived.WalkSpells
import Derived.WalkLawsBesides
import Derived.ChangeAlike
import Derived.RegionTactic
namespace Go.Proofs.Ytgkiipmeigfjnaa
open Go.RowKit
set_option linter.unusedSimpArgs false
set_option linter.unusedVariables false

def RelaxSays (n : Nat) (g c base : Nat) (s : BS) (w : World) (e : Ending) (w' : World) : Prop := ∃ pv, e = .returned (.tuple #[pv, .int .i64 s.last]) ∧ Own encI 1 3 w' w.heap.size pv (LI n s.p) ∧ Own encI 1 3 w' base (.slice (some ⟨g, 0, none⟩) n c) (LI n s.d) ∧ Keep (fun k => k = g) w w'
theorem brelax_stop {es : List NE} {m : Nat} {s : BS} (h : (bround es s).last < 0) : brelax es (m + 1) s = bround es s := by rw [brelax, if_pos h]
theorem brelax_go {es : List NE} {m : Nat} {s : BS} (h : ¬ (bround es s).last < 0) : brelax es (m + 1) s = brelax es m (bround es s) := by rw [brelax, if_neg h]
/-- what holds while Relax runs -/
def RInv (w : World) (n : Nat) (a : Option Addr) (len cap g c base : Nat) (d p : Nat → Int) (wr : World) : Prop :=
  wr.cell? ⟨w.heap.size, 0, none⟩ = some (.int .i64 (n : Int)) ∧ wr.cell? ⟨w.heap.size, 1, none⟩ = some (.slice a len cap) ∧ Own encI 1 3 wr w.heap.size (.slice (some ⟨w.heap.size + 1, 0, none⟩) n n) (LI n p) ∧ Own encI 1 3 wr base (.slice (some ⟨g, 0, none⟩) n c) (LI n d) ∧ Keep (fun k => k = g) w wr
section
variable {w : World} {n : Nat} {a : Option Addr} {len cap g c base : Nat} {d p : Nat → Int} {wr : World}
theorem RInv.alloc (h : RInv w n a len cap g c base d p wr) (o : Obj) : RInv w n a len cap g c base d p (wr.alloc o) := ⟨cu_alloc h.1, cu_alloc h.2.1, h.2.2.1.alloc o, h.2.2.2.1.alloc o, h.2.2.2.2.alloc o⟩
theorem RInv.drew (h : RInv w n a len cap g c base d p wr) : RInv w n a len cap g c base d p wr.drew := ⟨h.1, h.2.1, h.2.2.1, h.2.2.2.1, h.2.2.2.2.drew⟩
theorem RInv.drewN (h : RInv w n a len cap g c base d p wr) (m : Nat) : RInv w n a len cap g c base d p (wr.drewN m) := ⟨h.1, h.2.1, h.2.2.1, h.2.2.2.1, h.2.2.2.2.drewN m⟩
theorem RInv.setD (h : RInv w n a len cap g c base d p wr) (hg : g < w.heap.size) (i : Nat) (hi : i < n) (x : Int) : RInv w n a len cap g c base (upz d i x) p (wr.setCell ⟨g, i, none⟩ (.int .i64 x)) :=
  ⟨cu_set h.1 (by simp; omega), cu_set h.2.1 (by simp; omega), h.2.2.1.elsewhere (by simp [Value.ownBlock]; omega) _, h.2.2.2.1.setI i hi x, h.2.2.2.2.setCell (.inl rfl) _⟩
theorem RInv.setP (h : RInv w n a len cap g c base d p wr) (hg : g < w.heap.size) (i : Nat) (hi : i < n) (x : Int) : RInv w n a len cap g c base d (upz p i x) (wr.setCell ⟨w.heap.size + 1, i, none⟩ (.int .i64 x)) :=
  ⟨cu_set h.1 (by simp), cu_set h.2.1 (by simp), h.2.2.1.setI i hi x, h.2.2.2.1.elsewhere (by simp [Value.ownBlock]; omega) _, h.2.2.2.2.setCell (.inr (by simp)) _⟩
theorem RInv.facts (h : RInv w n a len cap g c base d p wr) : (∀ j, wr.frozen? ⟨w.heap.size + 1, j, none⟩ = false) ∧ (∀ j, wr.frozen? ⟨g, j, none⟩ = false) ∧ w.heap.size + 1 < wr.heap.size ∧ g < wr.heap.size := ⟨h.2.2.1.free, h.2.2.2.1.free, h.2.2.1.at_base.2, h.2.2.2.1.at_base.2⟩
end
set_option maxRecDepth 100000 in
set_option maxHeartbeats 2000000 in
theorem relax_any (n : Nat) (a : Option Addr) (cap : Nat) (es : List Ed) (g c base : Nat) (d0 : Nat → Int) (w : World) (B : Nat) (hB : B ≤ w.heap.size) (hE : Row encE 3 w B a es) (hn1 : 1 ≤ n) (hn : n ≤ 64) (hl : es.length ≤ 600) (hes : Right n es)
    (hD : Own encI 1 3 w base (.slice (some ⟨g, 0, none⟩) n c) (LI n d0)) (hBg : B ≤ g) (hlow : Low 1099511627776 d0) :
    Calls Try.prog 75 #[.agg #[.int .i64 (n : Int), .slice a es.length cap], .slice (some ⟨g, 0, none⟩) n c] w (RelaxSays n g c base (brelax (nes es) n ⟨d0, fun _ => -1, -1⟩) w) := by
  have hg := hD.at_base
  have hgw := hg.2
  replace hE := hide hE
  replace hD := hide hD
  replace hes := hide hes
  replace hlow := hide hlow
  go_enter Try.func75, Try.ntmps75
  go_wp2_with (at_make; (refine wpList_mk (e := 3) (enc := encI) rfl (.tmp 12) 34 rfl (.int .i64 0) 8 (0 : Int) Try.underlying34 info_int rfl rfl (n) ?e11 ?e21 ?e31 (w.heap.size) ?e41 ?_); (case e11 => rfl); (case e21 => omega); (case e31 => unfold maxLen; omega); (case e41 => first | omega | (simp; done) | (simp; omega)); intro w1 own1 hb1 hsz1; replace own1 := hide own1; replace hb1 := hide hb1)
  have h0 : Hid (RInv w n a es.length cap g c base d0 (fun _ => 0) w1) := by
    have hb := hb1.out
    have e0 : (w.alloc (.cells #[.int .i64 (n : Int), .slice a es.length cap] 24)).cell? ⟨w.heap.size, 0, none⟩ = some (.int .i64 (n : Int)) := by simp [go_sem]
    have e1 : (w.alloc (.cells #[.int .i64 (n : Int), .slice a es.length cap] 24)).cell? ⟨w.heap.size, 1, none⟩ = some (.slice a es.length cap) := by simp [go_sem]
    refine ⟨(hb.cell (by simp)).trans e0, (hb.cell (by simp)).trans e1, ?_, (hD.out.alloc _).stays hb, ?_⟩
    · rw [← li_rep]
      have := own1.out
      simpa using this
    · exact ((Keep.refl _ _).alloc _).trans (Keep.new hb)
  go_loopw [7, 16] (fun s7 i wr => ∃ (k : Nat), k ≤ n ∧ i = .int .i64 k ∧ Hid (RInv w n a es.length cap g c base d0 (first k (fun _ => -1) (fun _ => 0)) wr)) (fun _ i _ => n - (intOf i).toNat)
  case atStart => exact ⟨0, Nat.zero_le _, rfl, by rw [first_zero]; exact h0⟩
  case round =>
    obtain ⟨k, hk, rfl, hI⟩ := hrel
    obtain ⟨q1, q2, q3, q4⟩ := hI.out.facts
    clear h0
    by_cases hlt : k < n
    · have c0 := hI.out.2.2.1.atI k hlt
      have hI2 := hI.out.setP hgw k hlt (-1)
      have e2 := hide (first_step k (fun _ => (-1 : Int)) (fun _ => 0))
      have hI3 := hide (show RInv w n a es.length cap g c base d0 (first (k + 1) (fun _ => -1) (fun _ => 0)) _ by rw [← e2.out]; exact hI2)
      clear hI2
      go_wp2
      go_roundw
      case rel => exact ⟨k + 1, by omega, by go_num, hI3⟩
      case measure => simp [intOf]; omega
    · obtain rfl : n = k := by omega
      have hI : Hid (RInv w n a es.length cap g c base d0 (fun _ => -1) wr) := by
        have h := hI.out
        refine ⟨h.1, h.2.1, ?_, h.2.2.2⟩
        rw [← first_all]
        exact h.2.2.1
      obtain ⟨wo, rfl⟩ : ∃ wo : World, wo = wr := ⟨_, rfl⟩
      have c0 := hI.out.1
      clear hlt hk
      go_wp2
      clear q1 q2 q3 q4 c0
      go_loopw [8, 10, 25] (fun s8 _ i wr => ∃ (t : Nat) (s : BS), t ≤ n ∧ i = .int .i64 t ∧ s8 = .int .i64 s.last ∧ Hid (brelax (nes es) n ⟨d0, fun _ => -1, -1⟩ = brelax (nes es) (n - t) s) ∧ Hid (Low (1099511627776 + 6000000 * t) s.d) ∧ Hid (RInv w n a es.length cap g c base s.d s.p wr)) (fun _ _ i _ => n - (intOf i).toNat)
      case atStart => exact ⟨0, ⟨d0, fun _ => -1, -1⟩, Nat.zero_le _, rfl, rfl, rfl, hlow.out.mono (by omega), hI⟩
      case round =>
        obtain ⟨t, s, ht, rfl, rfl, hR, hL, hJ⟩ := hrel
        clear hI
        by_cases hlt : t < n
        · obtain ⟨wi, rfl⟩ : ∃ wi : World, wi = wr := ⟨_, rfl⟩
          have c1 := hJ.out.2.1
          go_wp2
          clear c1
          go_loopw [8, 10, 30] (fun s8 _ i wr => ∃ (j : Nat) (r : BS), j ≤ es.length ∧ i = .int .i64 j ∧ s8 = .int .i64 r.last ∧ Hid (r = (nes (es.take j)).foldl bstep { s with last := -1 }) ∧ Hid (Low (1099511627776 + 6000000 * t + 10000 * j) r.d) ∧ Hid (RInv w n a es.length cap g c base r.d r.p wr)) (fun _ _ i _ => es.length - (intOf i).toNat)
          case atStart => exact ⟨0, { s with last := -1 }, Nat.zero_le _, rfl, rfl, rfl, hL.out.mono (by omega), hJ⟩
          case round =>
            obtain ⟨j, r, hj, rfl, rfl, hr, hLr, hI⟩ := hrel
            obtain ⟨q1, q2, q3, q4⟩ := hI.out.facts
            by_cases hjl : j < es.length
            · obtain ⟨b, o, rfl, hbB, e0, e1, e2⟩ := hE.out.ed j hjl
              have hkc := hI.out.2.2.2.2
              rw [← hkc.cell (by simp; omega) (by simp; omega)] at e0 e1 e2
              clear hkc
              obtain ⟨u, v, hu, hv, hun, hvn, hc1, hc2, hnt⟩ := right_edge hes.out j hjl
              rw [hu] at e0
              rw [hv] at e1
              have d1 := hI.out.2.2.2.1.atI u hun
              have d2 := hI.out.2.2.2.1.atI v hvn
              have d3 := hI.out.2.2.1.atI v hvn
              have l1 := hLr.out u
              have l2 := hLr.out v
              obtain ⟨cc, hcc⟩ : ∃ x, x = es[j].c := ⟨_, rfl⟩
              rw [← hcc] at e2 hc1 hc2 hnt
              obtain ⟨du, hdu⟩ : ∃ x, x = r.d u := ⟨_, rfl⟩
              obtain ⟨dv, hdv⟩ : ∃ x, x = r.d v := ⟨_, rfl⟩
              rw [← hdu] at d1 l1
              rw [← hdv] at d2 l2
              unfold FAR at l1 l2
              have hstep := hide (show ∀ r', r' = bstep r ⟨u, v, cc⟩ → r' = (nes (es.take (j + 1))).foldl bstep { s with last := -1 } by
                rintro r' rfl
                rw [hnt, List.foldl_append, ← hr.out]
                rfl)
              have hlow2 := hide (bstep_low (e := ⟨u, v, cc⟩) hLr.out hc1)
              have i1 : (0 : Int) ≤ (u : Int) ∧ (u : Int) < (n : Int) := by omega
              have i2 : (0 : Int) ≤ (v : Int) ∧ (v : Int) < (n : Int) := by omega
              replace hcc := hide hcc
              replace hdu := hide hdu
              replace hdv := hide hdv
              replace hnt := hide hnt
              have hgu : g ≠ w.heap.size := by omega
              clear hu hv
              by_cases hA : du < 1099511627776 ∧ du + cc < dv
              · have hb : bstep r ⟨u, v, cc⟩ = ⟨upz r.d v (du + cc), upz r.p v (u : Int), (v : Int)⟩ := by
                  unfold bstep
                  rw [if_pos (by have h1 := hdu.out; have h2 := hdv.out; simp only [← h1, ← h2]; unfold FAR; exact hA), ← hdu.out]
                rw [hb] at hlow2
                replace hb := hide hb
                obtain ⟨hA1, hA2⟩ := hA
                go_wp2
                go_quiet (fail)
                go_wp2
                go_region
                go_wp2
                go_roundw
                case rel =>
                  refine ⟨j + 1, ⟨upz r.d v (du + cc), upz r.p v (u : Int), (v : Int)⟩, by omega, by go_num, rfl, hstep.out _ hb.out.symm, hlow2.out.mono (by omega), ?_⟩
                  exact hide (show RInv w n _ _ _ g c base (upz r.d v (du + cc)) (upz r.p v (u : Int)) _ from by repeat (first | with_reducible exact hI.out | with_reducible refine RInv.drew ?_ | with_reducible refine RInv.drewN ?_ _ | with_reducible refine RInv.alloc ?_ _ | with_reducible refine RInv.setP ?_ hgw _ hvn _ | with_reducible refine RInv.setD ?_ hgw _ hvn _))
                case measure => simp [intOf]; omega
              · have hb : bstep r ⟨u, v, cc⟩ = r := by
                  unfold bstep
                  rw [if_neg (by have h1 := hdu.out; have h2 := hdv.out; simp only [← h1, ← h2]; unfold FAR; exact hA)]
                replace hb := hide hb
                have hlow3 := hide (hLr.out.mono (show 1099511627776 + 6000000 * (t : Int) + 10000 * j ≤ 1099511627776 + 6000000 * t + 10000 * ((j + 1 : Nat) : Int) by omega))
                clear hlow2
                by_cases hA1 : du < 1099511627776
                · have hA2 : ¬ du + cc < dv := fun h => hA ⟨hA1, h⟩
                  clear hA
                  go_wp2
                  go_quiet (fail)
                  go_wp2
                  go_roundw
                  case rel =>
                    refine ⟨j + 1, r, by omega, by go_num, rfl, hstep.out _ hb.out.symm, hlow3, ?_⟩
                    exact hide (by repeat (first | with_reducible exact hI.out | with_reducible refine RInv.drew ?_ | with_reducible refine RInv.drewN ?_ _ | with_reducible refine RInv.alloc ?_ _))
                  case measure => simp [intOf]; omega
                · have hA3 : decide (du < 1099511627776) = false := by simpa using hA1
                  clear hA hA1
                  go_wp2
                  go_quiet (fail)
                  go_wp2
                  go_roundw
                  case rel =>
                    refine ⟨j + 1, r, by omega, by go_num, rfl, hstep.out _ hb.out.symm, hlow3, ?_⟩
                    exact hide (by repeat (first | with_reducible exact hI.out | with_reducible refine RInv.drew ?_ | with_reducible refine RInv.drewN ?_ _ | with_reducible refine RInv.alloc ?_ _))
                  case measure => simp [intOf]; omega
            · obtain rfl : j = es.length := by omega
              have hr2 := hide (show r = bround (nes es) s by rw [hr.out, List.take_length]; rfl)
              have hm := hide (show n - t = (n - (t + 1)) + 1 by omega)
              have hL2 := hide (hLr.out.mono (show 1099511627776 + 6000000 * (t : Int) + 10000 * (es.length : Int) ≤ 1099511627776 + 6000000 * ((t + 1 : Nat) : Int) by omega))
              by_cases hlast : r.last < 0
              · have hfin := hide (show brelax (nes es) n ⟨d0, fun _ => -1, -1⟩ = r by
                  rw [hR.out, hm.out, brelax_stop (by rw [← hr2.out]; exact hlast)]
                  exact hr2.out.symm)
                go_wp2
                go_ret2
                rw [hfin.out]
                exact ⟨_, rfl, hI.out.2.2.1, hI.out.2.2.2.1, hI.out.2.2.2.2⟩
              · have hfin := hide (show brelax (nes es) n ⟨d0, fun _ => -1, -1⟩ = brelax (nes es) (n - (t + 1)) r by
                  rw [hR.out, hm.out, brelax_go (by rw [← hr2.out]; exact hlast)]
                  rw [← hr2.out])
                go_wp2
                go_roundw
                case rel => exact ⟨t + 1, r, by omega, by go_num, rfl, hfin, hL2, hI⟩
                case measure => simp [intOf]; omega
        · obtain rfl : n = t := by omega
          go_wp2
          go_ret2
          have hfin : brelax (nes es) n ⟨d0, fun _ => -1, -1⟩ = s := by rw [hR.out, Nat.sub_self]; rfl
          rw [hfin]
          exact ⟨_, rfl, hJ.out.2.2.1, hJ.out.2.2.2.1, hJ.out.2.2.2.2⟩
end Go.Proofs.Ytgkiipmeigfjnaa
