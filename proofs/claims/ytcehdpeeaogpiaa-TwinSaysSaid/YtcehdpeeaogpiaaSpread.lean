/-
  What the reference's Spread returns: costs round by round. Conditions: a right net, costs within bounds.
-/
import Derived.Test.YtcehdpeeaogpiaaClone
import Derived.BigQuiet
import Derived.Deep.QuietTactic
import Derived.ChangeAlike
import Derived.RegionTactic
namespace Go.Proofs.Ytcehdpeeaogpiaa
open Go.RowKit
set_option linter.unusedSimpArgs false
set_option linter.unusedVariables false
/-- what holds while a round of Spread runs -/
def SInv (w wi : World) (n : Nat) (a : Option Addr) (len cap g c : Nat) (nx : Nat → Int) (wr : World) : Prop :=
  wr.cell? ⟨w.heap.size, 0, none⟩ = some (.int .i64 (n : Int)) ∧ wr.cell? ⟨w.heap.size, 1, none⟩ = some (.slice a len cap) ∧ Own encI 1 3 wr wi.heap.size (.slice (some ⟨g, 0, none⟩) n c) (LI n nx) ∧ Below wi.heap.size wi wr
section
variable {w wi : World} {n : Nat} {a : Option Addr} {len cap g c : Nat} {nx : Nat → Int} {wr : World}
theorem SInv.alloc (h : SInv w wi n a len cap g c nx wr) (o : Obj) : SInv w wi n a len cap g c nx (wr.alloc o) := ⟨cu_alloc h.1, cu_alloc h.2.1, h.2.2.1.alloc o, h.2.2.2.alloc h.2.2.2.size o⟩
theorem SInv.drew (h : SInv w wi n a len cap g c nx wr) : SInv w wi n a len cap g c nx wr.drew := ⟨h.1, h.2.1, h.2.2.1, h.2.2.2.drew⟩
theorem SInv.drewN (h : SInv w wi n a len cap g c nx wr) (m : Nat) : SInv w wi n a len cap g c nx (wr.drewN m) := ⟨h.1, h.2.1, h.2.2.1, up_drewN h.2.2.2⟩
theorem SInv.set (h : SInv w wi n a len cap g c nx wr) (hw : w.heap.size < wi.heap.size) (i : Nat) (hi : i < n) (x : Int) : SInv w wi n a len cap g c (upz nx i x) (wr.setCell ⟨g, i, none⟩ (.int .i64 x)) :=
  have hg := h.2.2.1.at_base
  ⟨cu_set h.1 (by simp; omega), cu_set h.2.1 (by simp; omega), h.2.2.1.setI i hi x, h.2.2.2.setCell (by simp; omega) _⟩
end
def RowBack {α : Type} (enc : α → List Value) (sz : Nat) (xs : List α) (n : Nat) (w : World) (e' : Ending) (w' : World) : Prop := ∃ a c, e' = .returned (.slice a n c) ∧ Row enc sz w' w'.heap.size a xs ∧ Below w.heap.size w w'
/-- besides: it is the slice that came in, or a new one -/
def RowBackF {α : Type} (enc : α → List Value) (sz : Nat) (xs : List α) (n : Nat) (da : Option Addr) (dc m : Nat) (w : World) (e' : Ending) (w' : World) : Prop := ∃ a c, e' = .returned (.slice a n c) ∧ Row enc sz w' w'.heap.size a xs ∧ Below w.heap.size w w' ∧ ((a = da ∧ c = dc ∧ m = 0) ∨ ∃ g, a = some ⟨g, 0, none⟩ ∧ w.heap.size ≤ g ∧ Own enc sz 3 w' w.heap.size (.slice a n c) xs)
set_option maxRecDepth 100000 in
set_option maxHeartbeats 2000000 in
theorem spread_f (n : Nat) (a : Option Addr) (cap : Nat) (es : List Ed) (da : Option Addr) (dc : Nat) (d0 : Nat → Int) (m : Nat) (w : World) (B C : Nat) (hB : B ≤ w.heap.size) (hC : C ≤ w.heap.size) (hE : Row encE 3 w B a es) (hn1 : 1 ≤ n) (hn : n ≤ 64) (hl : es.length ≤ 600) (hm : m ≤ 1000) (hes : Right n es)
    (hD : Row encI 1 w C da (LI n d0)) (hlow : Low 2199023255552 d0) :
    Calls Try.prog 123 #[.agg #[.int .i64 (n : Int), .slice a es.length cap], .slice da n dc, .int .i64 (m : Int)] w (RowBackF encI 1 (LI n (spread (nes es) d0 m)) n da dc m w) := by
  replace hE := hide hE
  replace hD := hide hD
  replace hes := hide hes
  replace hlow := hide hlow
  go_enter Try.func123, Try.ntmps123
  go_wp2
  go_loopw [1, 7, 9, 11] (fun s1 _ _ i wr => ∃ (t : Nat) (av : Option Addr) (cv : Nat), t ≤ m ∧ i = .int .i64 t ∧ s1 = .slice av n cv ∧ Hid (Row encI 1 wr wr.heap.size av (LI n (spread (nes es) d0 t))) ∧ Hid (Low (2199023255552 + 10000 * t) (spread (nes es) d0 t)) ∧ wr.cell? ⟨w.heap.size, 0, none⟩ = some (.int .i64 (n : Int)) ∧ wr.cell? ⟨w.heap.size, 1, none⟩ = some (.slice a es.length cap) ∧ Below w.heap.size w wr ∧ Hid ((av = da ∧ cv = dc ∧ t = 0) ∨ ∃ g, av = some ⟨g, 0, none⟩ ∧ w.heap.size ≤ g ∧ Own encI 1 3 wr w.heap.size (.slice av n cv) (LI n (spread (nes es) d0 t)))) (fun _ _ _ i _ => m - (intOf i).toNat)
  case atStart => exact ⟨0, da, dc, Nat.zero_le _, rfl, rfl, (hD.out.below ((by repeat (first | with_reducible exact Below.refl _ _ | with_reducible assumption | with_reducible refine up_drewN ?_ | with_reducible refine up_drew ?_ | (with_reducible refine up_alloc ?_ ?_; rotate_left; (first | omega | (simp <;> omega) | simp)) | (with_reducible refine up_set ?_ ?_; rotate_left; (first | omega | (simp <;> omega) | simp)) | (with_reducible refine Below.trans ?_ (Below.mono (by with_reducible assumption) ?_); rotate_left; (first | omega | (simp <;> omega) | simp)))) : Below w.heap.size w _) hC).mono (by simp; omega), hlow.out.mono (by omega), by simp [go_sem], by simp [go_sem], (by repeat (first | with_reducible exact Below.refl _ _ | with_reducible assumption | with_reducible refine up_drewN ?_ | with_reducible refine up_drew ?_ | (with_reducible refine up_alloc ?_ ?_; rotate_left; (first | omega | (simp <;> omega) | simp)) | (with_reducible refine up_set ?_ ?_; rotate_left; (first | omega | (simp <;> omega) | simp)) | (with_reducible refine Below.trans ?_ (Below.mono (by with_reducible assumption) ?_); rotate_left; (first | omega | (simp <;> omega) | simp)))), .inl ⟨rfl, rfl, rfl⟩⟩
  case round =>
    obtain ⟨t, av, cv, ht, rfl, rfl, hR, hL, c0, c1, hb, hfs⟩ := hrel
    have hbl := cell_lt c0
    by_cases hlt : t < m
    · obtain ⟨wi, rfl⟩ : ∃ wi : World, wi = wr := ⟨_, rfl⟩
      go_wp2_with fail
      refine (cloneI av cv n _ _ wi.heap.size (Nat.le_refl _) (li_len _ _) hR.out (by omega)).mono ?_
      rintro e w1 ⟨ga, gc, rfl, own1, hb1⟩
      obtain ⟨g, rfl, hg1, hg2⟩ := own1.blockI (by omega)
      have hI0 : Hid (SInv w wi n a es.length cap g gc (spread (nes es) d0 t) w1) := ⟨(hb1.cell hbl).trans c0, (hb1.cell hbl).trans c1, own1, hb1⟩
      have c1' := hI0.out.2.1
      clear own1
      go_wp2
      clear c1'
      go_loopw [9, 18] (fun _ i wr => ∃ (j : Nat) (nx : Nat → Int), j ≤ es.length ∧ i = .int .i64 j ∧ Hid (nx = (nes (es.take j)).foldl (spreadE (spread (nes es) d0 t)) (spread (nes es) d0 t)) ∧ Hid (Low (2199023255552 + 10000 * t + 10000) nx) ∧ Hid (SInv w wi n a es.length cap g gc nx wr)) (fun _ i _ => es.length - (intOf i).toNat)
      case atStart => exact ⟨0, _, Nat.zero_le _, rfl, rfl, hL.out.mono (by omega), hI0⟩
      case round =>
        obtain ⟨j, nx, hj, rfl, hr, hLr, hI⟩ := hrel
        clear hI0
        have q2 := hI.out.2.2.1.free
        have q3 := hI.out.2.2.1.at_base
        by_cases hjl : j < es.length
        · obtain ⟨b, o, rfl, hbB, e0, e1, e2⟩ := hE.out.ed j hjl
          have hbb := hI.out.2.2.2
          have hbw := hb.size
          rw [← hb.cell (by simp; omega), ← hbb.cell (by simp; omega)] at e0 e1 e2
          obtain ⟨u, v, hu, hv, hun, hvn, hc1, hc2, hnt⟩ := right_edge hes.out j hjl
          rw [hu] at e0
          rw [hv] at e1
          obtain ⟨db, dof, rfl, hdb, d1⟩ := hR.out.atI u hun
          rw [← hbb.cell (by simpa using hdb)] at d1
          have d2 := hI.out.2.2.1.atI v hvn
          have l1 := hL.out u
          have l2 := hLr.out v
          obtain ⟨cc, hcc⟩ : ∃ x, x = es[j].c := ⟨_, rfl⟩
          rw [← hcc] at e2 hc1 hc2 hnt
          obtain ⟨du, hdu⟩ : ∃ x, x = spread (nes es) d0 t u := ⟨_, rfl⟩
          obtain ⟨dv, hdv⟩ : ∃ x, x = nx v := ⟨_, rfl⟩
          rw [← hdu] at d1 l1
          rw [← hdv] at d2 l2
          unfold FAR at l1 l2
          have hstep := hide (show ∀ r', r' = spreadE (spread (nes es) d0 t) nx ⟨u, v, cc⟩ → r' = (nes (es.take (j + 1))).foldl (spreadE (spread (nes es) d0 t)) (spread (nes es) d0 t) by
            rintro r' rfl
            rw [hnt, List.foldl_append, ← hr.out]
            rfl)
          have hlow2 := hide (spreadE_low (e := ⟨u, v, cc⟩) hL.out hLr.out hc1)
          have hdb2 : db < w1.heap.size := Nat.lt_of_lt_of_le hdb hb1.size
          have i1 : (0 : Int) ≤ (u : Int) ∧ (u : Int) < (n : Int) := by omega
          have i2 : (0 : Int) ≤ (v : Int) ∧ (v : Int) < (n : Int) := by omega
          replace hcc := hide hcc
          replace hdu := hide hdu
          replace hdv := hide hdv
          replace hnt := hide hnt
          have hgd : g ≠ db := by omega
          have hbs := hbb.size
          have hbl2 : b < wr.heap.size := by omega
          have hdl2 : db < wr.heap.size := by omega
          clear hu hv hbb
          by_cases hA : du < 1099511627776
          · have hb2 : spreadE (spread (nes es) d0 t) nx ⟨u, v, cc⟩ = upz nx v (min dv (du + cc)) := by
              unfold spreadE
              rw [if_pos (by have h1 := hdu.out; simp only [← h1]; unfold FAR; exact hA), ← hdu.out, ← hdv.out]
            rw [hb2] at hlow2
            replace hb2 := hide hb2
            rcases Int.lt_or_le (du + cc) dv with hmin | hmin
            · have hm2 := hide (show min dv (du + cc) = du + cc by omega)
              go_wp2
              go_region
              go_wp2
              go_roundw
              case rel =>
                refine ⟨j + 1, upz nx v (du + cc), by omega, by go_num, hstep.out _ (by rw [hb2.out, hm2.out]), by rw [← hm2.out]; exact hlow2, ?_⟩
                exact hide (by repeat (first | with_reducible exact hI.out | with_reducible refine SInv.drew ?_ | with_reducible refine SInv.drewN ?_ _ | with_reducible refine SInv.alloc ?_ _ | with_reducible refine SInv.set ?_ hbl _ hvn _))
              case measure => simp [intOf]; omega
            · have hm2 := hide (show min dv (du + cc) = dv by omega)
              go_wp2
              go_region
              go_wp2
              go_roundw
              case rel =>
                refine ⟨j + 1, upz nx v dv, by omega, by go_num, hstep.out _ (by rw [hb2.out, hm2.out]), by rw [← hm2.out]; exact hlow2, ?_⟩
                exact hide (by repeat (first | with_reducible exact hI.out | with_reducible refine SInv.drew ?_ | with_reducible refine SInv.drewN ?_ _ | with_reducible refine SInv.alloc ?_ _ | with_reducible refine SInv.set ?_ hbl _ hvn _))
              case measure => simp [intOf]; omega
          · have hb2 := hide (show spreadE (spread (nes es) d0 t) nx ⟨u, v, cc⟩ = nx by
              unfold spreadE
              rw [if_neg (by have h1 := hdu.out; simp only [← h1]; unfold FAR; exact hA)])
            go_wp2
            go_roundw
            case rel =>
              refine ⟨j + 1, nx, by omega, by go_num, hstep.out _ hb2.out.symm, hLr, ?_⟩
              exact hide (by repeat (first | with_reducible exact hI.out | with_reducible refine SInv.drew ?_ | with_reducible refine SInv.drewN ?_ _ | with_reducible refine SInv.alloc ?_ _))
            case measure => simp [intOf]; omega
        · obtain rfl : j = es.length := by omega
          have hr2 : nx = spread (nes es) d0 (t + 1) := by rw [hr.out, List.take_length]; rfl
          have hI2 := hI.out
          rw [hr2] at hI2
          rw [hr2] at hLr
          replace hr2 := hide hr2
          replace hI2 := hide hI2
          go_wp2
          go_roundw
          case rel =>
            refine ⟨t + 1, some ⟨g, 0, none⟩, gc, by omega, by go_num, rfl, ?_, hLr.out.mono (by omega), hI2.out.1, hI2.out.2.1, hb.trans (hI2.out.2.2.2.mono hb.size), .inr ⟨g, rfl, by have := hb.size; omega, hI2.out.2.2.1.base_le hb.size⟩⟩
            obtain ⟨a', c', hv, hr5, _⟩ := hI2.out.2.2.1.row lenI
            simp only [Value.slice.injEq] at hv
            obtain ⟨rfl, _⟩ := hv
            exact hr5
          case measure => simp [intOf]; omega
    · obtain rfl : m = t := by omega
      go_wp2
      go_ret
      exact ⟨av, cv, rfl, hR.out, hb, hfs.out⟩
theorem spread_any (n : Nat) (a : Option Addr) (cap : Nat) (es : List Ed) (da : Option Addr) (dc : Nat) (d0 : Nat → Int) (m : Nat) (w : World) (B C : Nat) (hB : B ≤ w.heap.size) (hC : C ≤ w.heap.size) (hE : Row encE 3 w B a es) (hn1 : 1 ≤ n) (hn : n ≤ 64) (hl : es.length ≤ 600) (hm : m ≤ 1000) (hes : Right n es)
    (hD : Row encI 1 w C da (LI n d0)) (hlow : Low 2199023255552 d0) :
    Calls Try.prog 123 #[.agg #[.int .i64 (n : Int), .slice a es.length cap], .slice da n dc, .int .i64 (m : Int)] w (RowBack encI 1 (LI n (spread (nes es) d0 m)) n w) :=
  (spread_f n a cap es da dc d0 m w B C hB hC hE hn1 hn hl hm hes hD hlow).mono fun e w' ⟨av, cv, h1, h2, h3, _⟩ => ⟨av, cv, h1, h2, h3⟩
end Go.Proofs.Ytcehdpeeaogpiaa
