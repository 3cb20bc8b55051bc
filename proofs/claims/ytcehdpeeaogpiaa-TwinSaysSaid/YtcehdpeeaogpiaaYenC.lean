/-
  Is there a way with the same places among some: slices.ContainsFunc with the closures of yen.K and of the reference's Best. Conditions: bounds on lengths.
-/
import Derived.Test.YtcehdpeeaogpiaaYenL
import Derived.Test.YtcehdpeeaogpiaaListI
namespace Go.Proofs.Ytcehdpeeaogpiaa
open Go.RowKit
set_option linter.unusedSimpArgs false
set_option linter.unusedVariables false
theorem Row.wayY {w : World} {B : Nat} {a : Option Addr} {xs : List Yv} (h : Row encY 2 w B a xs) (i : Nat) (hi : i < xs.length) :
    ∃ b o, a = some ⟨b, o, none⟩ ∧ b < B ∧ w.cell? ⟨b, o + i * 2, none⟩ = some (.slice xs[i].a xs[i].n xs[i].c) ∧ w.cell? ⟨b, o + i * 2 + 1, none⟩ = some (.int .i64 xs[i].k) := by
  obtain ⟨b, o, h1, h2, h3⟩ := h i hi
  exact ⟨b, o, h1, h2, h3 0 _ rfl, h3 1 _ rfl⟩
def samePs (p : List Nat) (xs : List Yv) : List Bool := xs.map (fun x => decide (x.p = p))
theorem samePs_any (p : List Nat) (xs : List Yv) : (samePs p xs).any id = xs.any (fun x => decide (x.p = p)) := by
  unfold samePs
  rw [List.any_map]
  rfl
set_option maxHeartbeats 1000000 in
theorem sameK_any (x m : Yv) (bv : Nat) (w : World) (hx : PB w x) (hm : PB w m) (hc : w.cell? ⟨bv, 0, none⟩ = some (.slice m.a m.n m.c)) (t : Bool) (ht : t = decide (x.p = m.p)) :
    Calls Try.prog 153 #[.agg #[.slice x.a x.n x.c, .int .i64 x.k], .pointer (some ⟨bv, 0, none⟩)] w fun e w' => e = .returned (.bool t) ∧ Below w.heap.size w w' := by
  have hE := hide (fun (w' : World) (hb : Below w.heap.size w w') => eqI x.a m.a x.c m.c x.n m.n (NI x.p) (NI m.p) w' w'.heap.size w'.heap.size (by rw [ni_len]; exact hx.len) (by rw [ni_len]; exact hm.len) (hx.stays hb).row (hm.stays hb).row (Nat.le_trans hx.cap hx.max) (Nat.le_trans hm.cap hm.max) t (by rw [ht, decide_eq_true_eq]; exact ⟨fun h => by rw [h], fun h => ni_inj h⟩))
  have hl := cell_lt hc
  replace ht := hide ht
  clear hx hm
  go_enter Try.func153, Try.ntmps153
  go_wp2_with fail
  refine (hE.out _ (by repeat (first | with_reducible exact Below.refl _ _ | with_reducible assumption | with_reducible refine up_drewN ?_ | with_reducible refine up_drew ?_ | (with_reducible refine up_alloc ?_ ?_; rotate_left; (first | omega | (simp <;> omega) | simp)) | (with_reducible refine up_set ?_ ?_; rotate_left; (first | omega | (simp <;> omega) | simp)) | (with_reducible refine Below.trans ?_ (Below.mono (by with_reducible assumption) ?_); rotate_left; (first | omega | (simp <;> omega) | simp))))).mono ?_
  rintro e w1 ⟨rfl, k1, rfl⟩
  go_wp2
  go_ret
  exact ⟨rfl, (by repeat (first | with_reducible exact Below.refl _ _ | with_reducible assumption | with_reducible refine up_drewN ?_ | with_reducible refine up_drew ?_ | (with_reducible refine up_alloc ?_ ?_; rotate_left; (first | omega | (simp <;> omega) | simp)) | (with_reducible refine up_set ?_ ?_; rotate_left; (first | omega | (simp <;> omega) | simp)) | (with_reducible refine Below.trans ?_ (Below.mono (by with_reducible assumption) ?_); rotate_left; (first | omega | (simp <;> omega) | simp))))⟩
set_option maxRecDepth 100000 in
set_option maxHeartbeats 1000000 in
theorem idxK_any (y : Yv) (bv : Nat) (an : Option Addr) (cn m : Nat) (xs : List Yv) (w : World) (B : Nat) (hB : B ≤ w.heap.size) (hm : xs.length = m) (hE : Row encY 2 w B an xs) (hP : ∀ x ∈ xs, PB w x) (hy : PB w y) (hc : w.cell? ⟨bv, 0, none⟩ = some (.slice y.a y.n y.c)) (hm2 : m ≤ 1000000) :
    Calls Try.prog 202 #[.slice an m cn, .func (.func 153) #[] #[.pointer (some ⟨bv, 0, none⟩)]] w fun e w' => e = .returned (.int .i64 (firstB (samePs y.p xs) 0)) ∧ Below w.heap.size w w' := by
  obtain ⟨bs, hbse⟩ : ∃ bs, bs = samePs y.p xs := ⟨_, rfl⟩
  have hbl := hide (show bs.length = m by rw [hbse]; simp [samePs, hm])
  have hbb := hide (show ∀ k (h : k < xs.length) (h2 : k < bs.length), bs[k] = decide (xs[k].p = y.p) from fun k h h2 => by subst hbse; simp [samePs])
  rw [← hbse]
  clear hbse
  replace hE := hide hE
  replace hm := hide hm
  replace hP := hide hP
  replace hy := hide hy
  have z1 := cell_lt hc
  go_enter Try.func202, Try.ntmps202
  go_wp2
  go_loopw [5, 8] (fun _ i wr => ∃ k : Nat, k ≤ m ∧ i = .int .i64 k ∧ Hid (firstB bs 0 = firstB (bs.drop k) k) ∧ Hid (Below w.heap.size w wr)) (fun _ i _ => m - (intOf i).toNat)
  case atStart => exact ⟨0, Nat.zero_le _, rfl, hide rfl, hide (Below.refl _ _)⟩
  case round =>
    obtain ⟨k, hk2, rfl, hrest, hb'⟩ := hrel
    have hz := hb'.out.size
    by_cases hlt : k < m
    · have hk' : k < xs.length := by have := hm.out; omega
      have hk'' : k < bs.length := by have := hbl.out; omega
      obtain ⟨b4, o4, rfl, hbB, f1, f2⟩ := hE.out.wayY k hk'
      have f1 := cu_below hb'.out f1 (by simp; omega)
      have f2 := cu_below hb'.out f2 (by simp; omega)
      have hbr : b4 < wr.heap.size := by omega
      have hv := hide (hbb.out k hk' hk'')
      have hit := hide (firstB_hit hk'')
      have miss := hide (firstB_miss hk'')
      have ik : (0 : Int) ≤ (k : Int) ∧ (k : Int) < (m : Int) := by omega
      have hPk := hide ((hP.out xs[k] (List.getElem_mem hk')).stays hb'.out)
      generalize xs[k] = x at f1 f2 hv hPk
      have hcr := cu_below hb'.out hc z1
      have hT := hide (fun (w' : World) (hb : Below wr.heap.size wr w') (t : Bool) (ht : t = decide (x.p = y.p)) => sameK_any x y bv w' (hPk.out.stays hb) ((hy.out.stays hb'.out).stays hb) (cu_below hb hcr (cell_lt hcr)) t ht)
      obtain ⟨t, ht⟩ : ∃ t, t = decide (x.p = y.p) := ⟨_, rfl⟩
      rw [← ht] at hv
      replace ht := hide ht
      have hT2 := hide (fun (w' : World) (hb : Below wr.heap.size wr w') => hT.out w' hb t ht.out)
      clear hT
      cases t with
      | true =>
        have hfin := hide (show (k : Int) = firstB bs 0 by rw [hrest.out, hit.out hv.out])
        go_wp2_with fail
        refine (hT2.out _ (by first | exact Below.refl _ _ | exact below_drew _)).mono ?_
        rintro e w1 ⟨rfl, hb1⟩
        have hbb1 := hide (hb'.out.trans (hb1.mono hz))
        go_wp2
        go_ret
        exact ⟨ret_int hfin.out, hbb1.out⟩
      | false =>
        have hnx := hide (show firstB bs 0 = firstB (bs.drop (k + 1)) (k + 1) by rw [hrest.out, miss.out hv.out])
        go_wp2_with fail
        refine (hT2.out _ (by first | exact Below.refl _ _ | exact below_drew _)).mono ?_
        rintro e w1 ⟨rfl, hb1⟩
        have hbb1 := hide (hb'.out.trans (hb1.mono hz))
        go_wp2
        go_roundw
        case rel => exact ⟨k + 1, by omega, by go_num, hnx, hbb1⟩
        case measure => simp [intOf]; omega
    · obtain rfl : k = m := by omega
      have hfin := hide (show -1 = firstB bs 0 by rw [hrest.out, firstB_end (by rw [hbl.out]; exact Nat.le_refl _)])
      go_wp2
      go_ret
      exact ⟨ret_int hfin.out, hb'.out⟩
theorem hasK_any (y : Yv) (bv : Nat) (an : Option Addr) (cn m : Nat) (xs : List Yv) (w : World) (B : Nat) (hB : B ≤ w.heap.size) (hm : xs.length = m) (hE : Row encY 2 w B an xs) (hP : ∀ x ∈ xs, PB w x) (hy : PB w y) (hc : w.cell? ⟨bv, 0, none⟩ = some (.slice y.a y.n y.c)) (hm2 : m ≤ 1000000) (t : Bool) (ht : t = xs.any (fun x => decide (x.p = y.p))) :
    Calls Try.prog 152 #[.slice an m cn, .func (.func 153) #[] #[.pointer (some ⟨bv, 0, none⟩)]] w fun e w' => e = .returned (.bool t) ∧ Below w.heap.size w w' := by
  have hI := hide (idxK_any y bv an cn m xs w B hB hm hE hP hy hc hm2)
  have hA := hide (show decide (0 ≤ firstB (samePs y.p xs) 0) = t by rw [firstB_any, samePs_any, ht])
  clear hE hP hm hy ht
  generalize firstB (samePs y.p xs) 0 = z at hI hA
  go_enter Try.func152, Try.ntmps152
  go_wp2_with fail
  refine hI.out.mono ?_
  rintro e w1 ⟨rfl, hb1⟩
  go_wp2
  go_ret
  exact ⟨ret_bool hA.out, hb1⟩
set_option maxHeartbeats 1000000 in
theorem sameB_any (x m : Yv) (bv : Nat) (w : World) (hx : PB w x) (hm : PB w m) (hc : w.cell? ⟨bv, 0, none⟩ = some (.slice m.a m.n m.c)) (t : Bool) (ht : t = decide (x.p = m.p)) :
    Calls Try.prog 158 #[.agg #[.slice x.a x.n x.c, .int .i64 x.k], .pointer (some ⟨bv, 0, none⟩)] w fun e w' => e = .returned (.bool t) ∧ Below w.heap.size w w' := by
  have hE := hide (fun (w' : World) (hb : Below w.heap.size w w') => eqI x.a m.a x.c m.c x.n m.n (NI x.p) (NI m.p) w' w'.heap.size w'.heap.size (by rw [ni_len]; exact hx.len) (by rw [ni_len]; exact hm.len) (hx.stays hb).row (hm.stays hb).row (Nat.le_trans hx.cap hx.max) (Nat.le_trans hm.cap hm.max) t (by rw [ht, decide_eq_true_eq]; exact ⟨fun h => by rw [h], fun h => ni_inj h⟩))
  have hl := cell_lt hc
  replace ht := hide ht
  clear hx hm
  go_enter Try.func158, Try.ntmps158
  go_wp2_with fail
  refine (hE.out _ (by repeat (first | with_reducible exact Below.refl _ _ | with_reducible assumption | with_reducible refine up_drewN ?_ | with_reducible refine up_drew ?_ | (with_reducible refine up_alloc ?_ ?_; rotate_left; (first | omega | (simp <;> omega) | simp)) | (with_reducible refine up_set ?_ ?_; rotate_left; (first | omega | (simp <;> omega) | simp)) | (with_reducible refine Below.trans ?_ (Below.mono (by with_reducible assumption) ?_); rotate_left; (first | omega | (simp <;> omega) | simp))))).mono ?_
  rintro e w1 ⟨rfl, k1, rfl⟩
  go_wp2
  go_ret
  exact ⟨rfl, (by repeat (first | with_reducible exact Below.refl _ _ | with_reducible assumption | with_reducible refine up_drewN ?_ | with_reducible refine up_drew ?_ | (with_reducible refine up_alloc ?_ ?_; rotate_left; (first | omega | (simp <;> omega) | simp)) | (with_reducible refine up_set ?_ ?_; rotate_left; (first | omega | (simp <;> omega) | simp)) | (with_reducible refine Below.trans ?_ (Below.mono (by with_reducible assumption) ?_); rotate_left; (first | omega | (simp <;> omega) | simp))))⟩
set_option maxRecDepth 100000 in
set_option maxHeartbeats 1000000 in
theorem idxB_any (y : Yv) (bv : Nat) (an : Option Addr) (cn m : Nat) (xs : List Yv) (w : World) (B : Nat) (hB : B ≤ w.heap.size) (hm : xs.length = m) (hE : Row encY 2 w B an xs) (hP : ∀ x ∈ xs, PB w x) (hy : PB w y) (hc : w.cell? ⟨bv, 0, none⟩ = some (.slice y.a y.n y.c)) (hm2 : m ≤ 1000000) :
    Calls Try.prog 202 #[.slice an m cn, .func (.func 158) #[] #[.pointer (some ⟨bv, 0, none⟩)]] w fun e w' => e = .returned (.int .i64 (firstB (samePs y.p xs) 0)) ∧ Below w.heap.size w w' := by
  obtain ⟨bs, hbse⟩ : ∃ bs, bs = samePs y.p xs := ⟨_, rfl⟩
  have hbl := hide (show bs.length = m by rw [hbse]; simp [samePs, hm])
  have hbb := hide (show ∀ k (h : k < xs.length) (h2 : k < bs.length), bs[k] = decide (xs[k].p = y.p) from fun k h h2 => by subst hbse; simp [samePs])
  rw [← hbse]
  clear hbse
  replace hE := hide hE
  replace hm := hide hm
  replace hP := hide hP
  replace hy := hide hy
  have z1 := cell_lt hc
  go_enter Try.func202, Try.ntmps202
  go_wp2
  go_loopw [5, 8] (fun _ i wr => ∃ k : Nat, k ≤ m ∧ i = .int .i64 k ∧ Hid (firstB bs 0 = firstB (bs.drop k) k) ∧ Hid (Below w.heap.size w wr)) (fun _ i _ => m - (intOf i).toNat)
  case atStart => exact ⟨0, Nat.zero_le _, rfl, hide rfl, hide (Below.refl _ _)⟩
  case round =>
    obtain ⟨k, hk2, rfl, hrest, hb'⟩ := hrel
    have hz := hb'.out.size
    by_cases hlt : k < m
    · have hk' : k < xs.length := by have := hm.out; omega
      have hk'' : k < bs.length := by have := hbl.out; omega
      obtain ⟨b4, o4, rfl, hbB, f1, f2⟩ := hE.out.wayY k hk'
      have f1 := cu_below hb'.out f1 (by simp; omega)
      have f2 := cu_below hb'.out f2 (by simp; omega)
      have hbr : b4 < wr.heap.size := by omega
      have hv := hide (hbb.out k hk' hk'')
      have hit := hide (firstB_hit hk'')
      have miss := hide (firstB_miss hk'')
      have ik : (0 : Int) ≤ (k : Int) ∧ (k : Int) < (m : Int) := by omega
      have hPk := hide ((hP.out xs[k] (List.getElem_mem hk')).stays hb'.out)
      generalize xs[k] = x at f1 f2 hv hPk
      have hcr := cu_below hb'.out hc z1
      have hT := hide (fun (w' : World) (hb : Below wr.heap.size wr w') (t : Bool) (ht : t = decide (x.p = y.p)) => sameB_any x y bv w' (hPk.out.stays hb) ((hy.out.stays hb'.out).stays hb) (cu_below hb hcr (cell_lt hcr)) t ht)
      obtain ⟨t, ht⟩ : ∃ t, t = decide (x.p = y.p) := ⟨_, rfl⟩
      rw [← ht] at hv
      replace ht := hide ht
      have hT2 := hide (fun (w' : World) (hb : Below wr.heap.size wr w') => hT.out w' hb t ht.out)
      clear hT
      cases t with
      | true =>
        have hfin := hide (show (k : Int) = firstB bs 0 by rw [hrest.out, hit.out hv.out])
        go_wp2_with fail
        refine (hT2.out _ (by first | exact Below.refl _ _ | exact below_drew _)).mono ?_
        rintro e w1 ⟨rfl, hb1⟩
        have hbb1 := hide (hb'.out.trans (hb1.mono hz))
        go_wp2
        go_ret
        exact ⟨ret_int hfin.out, hbb1.out⟩
      | false =>
        have hnx := hide (show firstB bs 0 = firstB (bs.drop (k + 1)) (k + 1) by rw [hrest.out, miss.out hv.out])
        go_wp2_with fail
        refine (hT2.out _ (by first | exact Below.refl _ _ | exact below_drew _)).mono ?_
        rintro e w1 ⟨rfl, hb1⟩
        have hbb1 := hide (hb'.out.trans (hb1.mono hz))
        go_wp2
        go_roundw
        case rel => exact ⟨k + 1, by omega, by go_num, hnx, hbb1⟩
        case measure => simp [intOf]; omega
    · obtain rfl : k = m := by omega
      have hfin := hide (show -1 = firstB bs 0 by rw [hrest.out, firstB_end (by rw [hbl.out]; exact Nat.le_refl _)])
      go_wp2
      go_ret
      exact ⟨ret_int hfin.out, hb'.out⟩
theorem hasB_any (y : Yv) (bv : Nat) (an : Option Addr) (cn m : Nat) (xs : List Yv) (w : World) (B : Nat) (hB : B ≤ w.heap.size) (hm : xs.length = m) (hE : Row encY 2 w B an xs) (hP : ∀ x ∈ xs, PB w x) (hy : PB w y) (hc : w.cell? ⟨bv, 0, none⟩ = some (.slice y.a y.n y.c)) (hm2 : m ≤ 1000000) (t : Bool) (ht : t = xs.any (fun x => decide (x.p = y.p))) :
    Calls Try.prog 152 #[.slice an m cn, .func (.func 158) #[] #[.pointer (some ⟨bv, 0, none⟩)]] w fun e w' => e = .returned (.bool t) ∧ Below w.heap.size w w' := by
  have hI := hide (idxB_any y bv an cn m xs w B hB hm hE hP hy hc hm2)
  have hA := hide (show decide (0 ≤ firstB (samePs y.p xs) 0) = t by rw [firstB_any, samePs_any, ht])
  clear hE hP hm hy ht
  generalize firstB (samePs y.p xs) 0 = z at hI hA
  go_enter Try.func152, Try.ntmps152
  go_wp2_with fail
  refine hI.out.mono ?_
  rintro e w1 ⟨rfl, hb1⟩
  go_wp2
  go_ret
  exact ⟨ret_bool hA.out, hb1⟩
end Go.Proofs.Ytcehdpeeaogpiaa
