/-
  The reference's Ordered over fellref.KnotOrder$1: closures, index, the order. Conditions: what the relation's function says, as a premise.
-/
import Derived.Test.YtcehdpeeaogpiaaOrdD
import Derived.Test.YtcehdpeeaogpiaaConcatI
import Derived.Test.YtcehdpeeaogpiaaRTab
import Derived.Test.YtcehdpeeaogpiaaBase
import Derived.Deep.LoopGhost
import Derived.Deep.RegionLaw
namespace Go.Proofs.Ytcehdpeeaogpiaa
open Go.RowKit
set_option linter.unusedSimpArgs false
set_option linter.unusedVariables false
/-- what the relation's function answers, in every world behind w0 -/
def LeadsK (bg bo : Nat) (n : Nat) (ld : Nat → Nat → Bool) (w0 : World) : Prop :=
  ∀ (a b : Nat) (w' : World), a < n → b < n → Below w0.heap.size w0 w' → Calls Try.prog 104 #[.int .i64 (a : Int), .int .i64 (b : Int), .pointer (some ⟨bg, 0, none⟩), .pointer (some ⟨bo, 0, none⟩)] w' fun e w'' => e = .returned (.bool (ld a b)) ∧ Below w'.heap.size w' w''
theorem LeadsK.later (bg bo : Nat) {n : Nat} {ld : Nat → Nat → Bool} {w0 w1 : World} (h : LeadsK bg bo n ld w0) (hb : Below w0.heap.size w0 w1) : LeadsK bg bo n ld w1 :=
  fun a b w' ha hb' hw => h a b w' ha hb' (hb.trans (hw.mono hb.size))
theorem o11K_any (bg bo : Nat) (n a b bl bb : Nat) (ld : Nat → Nat → Bool) (w : World) (hL : LeadsK bg bo n ld w) (k1 : w.cell? ⟨bl, 0, none⟩ = some (.func (.func 104) #[] #[.pointer (some ⟨bg, 0, none⟩), .pointer (some ⟨bo, 0, none⟩)])) (k2 : w.cell? ⟨bb, 0, none⟩ = some (.int .i64 (b : Int))) (ha : a < n) (hb : b < n) :
    Calls Try.prog 178 #[.int .i64 (a : Int), .pointer (some ⟨bl, 0, none⟩), .pointer (some ⟨bb, 0, none⟩)] w fun e w' => e = .returned (.bool (ld a b)) ∧ Below w.heap.size w w' := by
  have z1 := cell_lt k1
  have z2 := cell_lt k2
  have hC := hide (hL a b w ha hb (Below.refl _ _))
  go_enter Try.func178, Try.ntmps178
  go_wp2_with fail
  refine hC.out.mono ?_
  rintro e w1 ⟨rfl, hb1⟩
  go_wp2
  go_ret
  exact ⟨rfl, hb1⟩
set_option maxRecDepth 100000 in
set_option maxHeartbeats 1000000 in
theorem ix11K_any (bg bo : Nat) (n b bl bb : Nat) (ld : Nat → Nat → Bool) (ap : Option Addr) (m c : Nat) (l : List Nat) (w : World) (B : Nat) (hB : B ≤ w.heap.size) (hL : LeadsK bg bo n ld w) (k1 : w.cell? ⟨bl, 0, none⟩ = some (.func (.func 104) #[] #[.pointer (some ⟨bg, 0, none⟩), .pointer (some ⟨bo, 0, none⟩)])) (k2 : w.cell? ⟨bb, 0, none⟩ = some (.int .i64 (b : Int))) (hm : l.length = m) (hE : Row encI 1 w w.heap.size ap (LN l)) (hl : ∀ v ∈ l, v < n) (hm2 : m ≤ 1000000) (hb : b < n) :
    Calls Try.prog 176 #[.slice ap m c, .func (.func 178) #[] #[.pointer (some ⟨bl, 0, none⟩), .pointer (some ⟨bb, 0, none⟩)]] w fun e w' => e = .returned (.int .i64 (firstB (l.map fun a => ld a b) 0)) ∧ Below w.heap.size w w' := by
  obtain ⟨bs, hbse⟩ : ∃ bs, bs = l.map fun a => ld a b := ⟨_, rfl⟩
  have hbl := hide (show bs.length = m by rw [hbse, List.length_map, hm])
  have hbb := hide (show ∀ k (h : k < l.length) (h2 : k < bs.length), bs[k] = ld l[k] b from fun k h h2 => by subst hbse; simp)
  rw [← hbse]
  clear hbse
  replace hE := hide hE
  replace hl := hide hl
  replace hm := hide hm
  have z1 := cell_lt k1
  have z2 := cell_lt k2
  go_enter Try.func176, Try.ntmps176
  go_wp2
  go_loopw [5, 8] (fun _ i wr => ∃ k : Nat, k ≤ m ∧ i = .int .i64 k ∧ Hid (firstB bs 0 = firstB (bs.drop k) k) ∧ Hid (Below w.heap.size w wr)) (fun _ i _ => m - (intOf i).toNat)
  case atStart => exact ⟨0, Nat.zero_le _, rfl, hide rfl, hide (Below.refl _ _)⟩
  case round =>
    obtain ⟨k, hk2, rfl, hrest, hb'⟩ := hrel
    have hz := hb'.out.size
    by_cases hlt : k < m
    · have hk' : k < l.length := by have := hm.out; omega
      have hk'' : k < bs.length := by have := hbl.out; omega
      obtain ⟨b4, o4, rfl, hbB, f1⟩ := hE.out.int k (by rw [ln_len]; exact hk')
      rw [ln_get] at f1
      have f1 := cu_below hb'.out f1 (by simp; omega)
      have hbr : b4 < wr.heap.size := by omega
      have hvn := hl.out _ (List.getElem_mem hk')
      have hv := hide (hbb.out k hk' hk'')
      have hit := hide (firstB_hit hk'')
      have miss := hide (firstB_miss hk'')
      have ik : (0 : Int) ≤ (k : Int) ∧ (k : Int) < (m : Int) := by omega
      generalize l[k] = v at f1 hv hvn
      have hT := hide (fun (w' : World) (hb : Below wr.heap.size wr w') => o11K_any bg bo n v b bl bb ld w' (hL.later bg bo (hb'.out.trans (hb.mono hz))) (cu_below hb (cu_below hb'.out k1 z1) (by simp; omega)) (cu_below hb (cu_below hb'.out k2 z2) (by simp; omega)) hvn (by assumption))
      obtain ⟨t, ht⟩ : ∃ t, t = ld v b := ⟨_, rfl⟩
      rw [← ht] at hT hv
      replace ht := hide ht
      cases t with
      | true =>
        have hfin := hide (show (k : Int) = firstB bs 0 by rw [hrest.out, hit.out hv.out])
        go_wp2_with fail
        refine (hT.out _ (by first | exact Below.refl _ _ | exact below_drew _)).mono ?_
        rintro e w1 ⟨rfl, hb1⟩
        have hb2 := hide (hb'.out.trans (hb1.mono hz))
        go_wp2
        go_ret
        exact ⟨ret_int hfin.out, hb2.out⟩
      | false =>
        have hnx := hide (show firstB bs 0 = firstB (bs.drop (k + 1)) (k + 1) by rw [hrest.out, miss.out hv.out])
        go_wp2_with fail
        refine (hT.out _ (by first | exact Below.refl _ _ | exact below_drew _)).mono ?_
        rintro e w1 ⟨rfl, hb1⟩
        have hb2 := hide (hb'.out.trans (hb1.mono hz))
        go_wp2
        go_roundw
        case rel => exact ⟨k + 1, by omega, by go_num, hnx, hb2⟩
        case measure => simp [intOf]; omega
    · obtain rfl : k = m := by omega
      have hfin := hide (show -1 = firstB bs 0 by rw [hrest.out, firstB_end (by rw [hbl.out]; exact Nat.le_refl _)])
      go_wp2
      go_ret
      exact ⟨ret_int hfin.out, hb'.out⟩
theorem con11K_any (bg bo : Nat) (n b bl bb : Nat) (ld : Nat → Nat → Bool) (ap : Option Addr) (m c : Nat) (l : List Nat) (w : World) (B : Nat) (hB : B ≤ w.heap.size) (hL : LeadsK bg bo n ld w) (k1 : w.cell? ⟨bl, 0, none⟩ = some (.func (.func 104) #[] #[.pointer (some ⟨bg, 0, none⟩), .pointer (some ⟨bo, 0, none⟩)])) (k2 : w.cell? ⟨bb, 0, none⟩ = some (.int .i64 (b : Int))) (hm : l.length = m) (hE : Row encI 1 w B ap (LN l)) (hl : ∀ v ∈ l, v < n) (hm2 : m ≤ 1000000) (hb : b < n) :
    Calls Try.prog 161 #[.slice ap m c, .func (.func 178) #[] #[.pointer (some ⟨bl, 0, none⟩), .pointer (some ⟨bb, 0, none⟩)]] w fun e w' => e = .returned (.bool ((l.map fun a => ld a b).any id)) ∧ Below w.heap.size w w' := by
  have hI := hide (ix11K_any bg bo n b bl bb ld ap m c l w B hB hL k1 k2 hm (hE.mono hB) hl hm2 hb)
  have hA := hide (firstB_any (l.map fun a => ld a b) 0)
  clear hE hm
  generalize (l.map fun a => ld a b) = bs at hI hA ⊢
  generalize firstB bs 0 = x at hI hA
  go_enter Try.func161, Try.ntmps161
  go_wp2_with fail
  refine hI.out.mono ?_
  rintro e w1 ⟨rfl, hb1⟩
  go_wp2
  go_ret
  exact ⟨ret_bool hA.out, hb1⟩

set_option maxHeartbeats 1000000 in
theorem o1K_any (bg bo : Nat) (n b bp bl : Nat) (ld : Nat → Nat → Bool) (ap : Option Addr) (m c : Nat) (l : List Nat) (w : World) (hL : LeadsK bg bo n ld w) (k1 : w.cell? ⟨bl, 0, none⟩ = some (.func (.func 104) #[] #[.pointer (some ⟨bg, 0, none⟩), .pointer (some ⟨bo, 0, none⟩)])) (k2 : w.cell? ⟨bp, 0, none⟩ = some (.slice ap m c)) (hm : l.length = m) (hE : Row encI 1 w w.heap.size ap (LN l)) (hl : ∀ v ∈ l, v < n) (hm2 : m ≤ 1000000) (hb : b < n) :
    Calls Try.prog 177 #[.int .i64 (b : Int), .pointer (some ⟨bp, 0, none⟩), .pointer (some ⟨bl, 0, none⟩)] w fun e w' => e = .returned (.bool (freeG ld l b)) ∧ Below w.heap.size w w' := by
  have z1 := cell_lt k1
  have z2 := cell_lt k2
  have hC := hide (fun (w' : World) (hb' : Below w.heap.size w w') (k3 : w'.cell? ⟨w.heap.size, 0, none⟩ = some (.int .i64 (b : Int))) => con11K_any bg bo n b bl w.heap.size ld ap m c l w' w.heap.size hb'.size (hL.later bg bo hb') (cu_below hb' k1 z1) k3 hm (hE.below hb' (Nat.le_refl _)) hl hm2 hb)
  have hf := hide (show freeG ld l b = !((l.map fun a => ld a b).any id) by simp [freeG, List.any_map, Function.comp_def])
  clear hE
  generalize (List.map (fun a => ld a b) l).any id = t at hC hf
  go_enter Try.func177, Try.ntmps177
  go_wp2_with fail
  refine (hC.out _ (up_alloc (Below.refl _ _) (Nat.le_refl _)) (by simp [go_sem])).mono ?_
  rintro e w1 ⟨rfl, hb1⟩
  go_wp2
  go_ret
  exact ⟨ret_bool hf.out.symm, unalloc (hb1.mono (by simp)) (Nat.le_refl _)⟩
set_option maxRecDepth 100000 in
set_option maxHeartbeats 1000000 in
theorem ix1K_any (bg bo : Nat) (n bp bl : Nat) (ld : Nat → Nat → Bool) (ap : Option Addr) (m c : Nat) (l : List Nat) (w : World) (B : Nat) (hB : B ≤ w.heap.size) (hL : LeadsK bg bo n ld w) (k1 : w.cell? ⟨bl, 0, none⟩ = some (.func (.func 104) #[] #[.pointer (some ⟨bg, 0, none⟩), .pointer (some ⟨bo, 0, none⟩)])) (k2 : w.cell? ⟨bp, 0, none⟩ = some (.slice ap m c)) (hm : l.length = m) (hE : Row encI 1 w w.heap.size ap (LN l)) (hl : ∀ v ∈ l, v < n) (hm2 : m ≤ 1000000) :
    Calls Try.prog 176 #[.slice ap m c, .func (.func 177) #[] #[.pointer (some ⟨bp, 0, none⟩), .pointer (some ⟨bl, 0, none⟩)]] w fun e w' => e = .returned (.int .i64 (firstB (l.map fun b => freeG ld l b) 0)) ∧ Below w.heap.size w w' := by
  obtain ⟨bs, hbse⟩ : ∃ bs, bs = l.map fun b => freeG ld l b := ⟨_, rfl⟩
  have hbl := hide (show bs.length = m by rw [hbse, List.length_map, hm])
  have hbb := hide (show ∀ k (h : k < l.length) (h2 : k < bs.length), bs[k] = freeG ld l l[k] from fun k h h2 => by subst hbse; simp)
  rw [← hbse]
  clear hbse
  replace hE := hide hE
  replace hl := hide hl
  replace hm := hide hm
  have z1 := cell_lt k1
  have z2 := cell_lt k2
  go_enter Try.func176, Try.ntmps176
  go_wp2
  go_loopw [5, 8] (fun _ i wr => ∃ k : Nat, k ≤ m ∧ i = .int .i64 k ∧ Hid (firstB bs 0 = firstB (bs.drop k) k) ∧ Hid (Below w.heap.size w wr)) (fun _ i _ => m - (intOf i).toNat)
  case atStart => exact ⟨0, Nat.zero_le _, rfl, hide rfl, hide (Below.refl _ _)⟩
  case round =>
    obtain ⟨k, hk2, rfl, hrest, hb'⟩ := hrel
    have hz := hb'.out.size
    by_cases hlt : k < m
    · have hk' : k < l.length := by have := hm.out; omega
      have hk'' : k < bs.length := by have := hbl.out; omega
      obtain ⟨b4, o4, rfl, hbB, f1⟩ := hE.out.int k (by rw [ln_len]; exact hk')
      rw [ln_get] at f1
      have f1 := cu_below hb'.out f1 (by simp; omega)
      have hbr : b4 < wr.heap.size := by omega
      have hvn := hl.out _ (List.getElem_mem hk')
      have hv := hide (hbb.out k hk' hk'')
      have hit := hide (firstB_hit hk'')
      have miss := hide (firstB_miss hk'')
      have ik : (0 : Int) ≤ (k : Int) ∧ (k : Int) < (m : Int) := by omega
      generalize l[k] = v at f1 hv hvn
      have hT := hide (fun (w' : World) (hb : Below wr.heap.size wr w') => o1K_any bg bo n v bp bl ld _ m c l w' (hL.later bg bo (hb'.out.trans (hb.mono hz))) (cu_below hb (cu_below hb'.out k1 z1) (by simp; omega)) (cu_below hb (cu_below hb'.out k2 z2) (by simp; omega)) hm.out ((hE.out.below (hb'.out.trans (hb.mono hz)) (Nat.le_refl _)).mono (by have := hb.size; omega)) hl.out (by omega) hvn)
      obtain ⟨t, ht⟩ : ∃ t, t = freeG ld l v := ⟨_, rfl⟩
      rw [← ht] at hT hv
      replace ht := hide ht
      cases t with
      | true =>
        have hfin := hide (show (k : Int) = firstB bs 0 by rw [hrest.out, hit.out hv.out])
        go_wp2_with fail
        refine (hT.out _ (by first | exact Below.refl _ _ | exact below_drew _)).mono ?_
        rintro e w1 ⟨rfl, hb1⟩
        have hb2 := hide (hb'.out.trans (hb1.mono hz))
        go_wp2
        go_ret
        exact ⟨ret_int hfin.out, hb2.out⟩
      | false =>
        have hnx := hide (show firstB bs 0 = firstB (bs.drop (k + 1)) (k + 1) by rw [hrest.out, miss.out hv.out])
        go_wp2_with fail
        refine (hT.out _ (by first | exact Below.refl _ _ | exact below_drew _)).mono ?_
        rintro e w1 ⟨rfl, hb1⟩
        have hb2 := hide (hb'.out.trans (hb1.mono hz))
        go_wp2
        go_roundw
        case rel => exact ⟨k + 1, by omega, by go_num, hnx, hb2⟩
        case measure => simp [intOf]; omega
    · obtain rfl : k = m := by omega
      have hfin := hide (show -1 = firstB bs 0 by rw [hrest.out, firstB_end (by rw [hbl.out]; exact Nat.le_refl _)])
      go_wp2
      go_ret
      exact ⟨ret_int hfin.out, hb'.out⟩

set_option maxRecDepth 100000 in
set_option maxHeartbeats 2000000 in
theorem orderedK_any (bg bo : Nat) (n f m c : Nat) (ld : Nat → Nat → Bool) (ap : Option Addr) (l : List Nat) (w : World) (hL : LeadsK bg bo n ld w) (hm : l.length = m) (hE : Row encI 1 w w.heap.size ap (LN l)) (hl : ∀ v ∈ l, v < n) (hnd : l.Nodup) (hm2 : m ≤ 100000) (hmf : m ≤ f) (hmc : m ≤ c) (hc : c ≤ 9223372036854775807) :
    Calls Try.prog 103 #[.slice ap m c, .func (.func 104) #[] #[.pointer (some ⟨bg, 0, none⟩), .pointer (some ⟨bo, 0, none⟩)]] w (OrdBack (kahnG ld f l) w) := by
  replace hE := hide hE
  replace hl := hide hl
  replace hnd := hide hnd
  replace hm := hide hm
  go_enter Try.func103, Try.ntmps103
  go_wp2
  obtain ⟨w0, h0⟩ : ∃ w0, w0 = (w.alloc (.cells #[.slice ap m c] 29)).alloc (.cells #[.func (.func 104) #[] #[.pointer (some ⟨bg, 0, none⟩), .pointer (some ⟨bo, 0, none⟩)]] 146) := ⟨_, rfl⟩
  have hb0 := hide (show Below w.heap.size w w0 by rw [h0]; exact up_alloc (up_alloc (Below.refl _ _) (Nat.le_refl _)) (by simp))
  have hz0 := hide (show w0.heap.size = w.heap.size + 1 + 1 by rw [h0]; simp)
  have c0 : w0.cell? ⟨w.heap.size, 0, none⟩ = some (.slice ap m c) := by rw [h0]; simp [go_sem]
  have f0 : w0.frozen? ⟨w.heap.size, 0, none⟩ = false := by rw [h0]; simp [go_sem]
  have c1 : w0.cell? ⟨w.heap.size + 1, 0, none⟩ = some (.func (.func 104) #[] #[.pointer (some ⟨bg, 0, none⟩), .pointer (some ⟨bo, 0, none⟩)]) := by rw [h0]; simp [go_sem]
  simp only [← h0]
  replace h0 := hide h0
  have hE0 := hide ((hE.out.below hb0.out (Nat.le_refl _)).mono hb0.out.size)
  go_loopg [5, 6] m (fun gk s5 _ wr => ∃ (p q f' c1 : Nat) (a1 : Option Addr) (av : Option Addr) (cv : Nat) (rem out : List Nat), s5 = .slice av p cv ∧ q = gk ∧ q ≤ f' ∧ q ≤ m ∧ p ≤ m ∧ Hid (rem.length = q) ∧ q ≤ c1 ∧ c1 ≤ 9223372036854775807 ∧ wr.cell? ⟨w.heap.size, 0, none⟩ = some (.slice a1 q c1) ∧ wr.frozen? ⟨w.heap.size, 0, none⟩ = false ∧ wr.cell? ⟨w.heap.size + 1, 0, none⟩ = some (.func (.func 104) #[] #[.pointer (some ⟨bg, 0, none⟩), .pointer (some ⟨bo, 0, none⟩)]) ∧ Hid (Row encI 1 wr wr.heap.size a1 (LN rem)) ∧ Hid (∀ v ∈ rem, v < n) ∧ Hid (rem.Nodup) ∧ Hid (out.length = p ∧ p + q = m) ∧ Hid (Own encI 1 3 wr w0.heap.size (.slice av p cv) (LN out)) ∧ Hid (out ++ kahnG ld f' rem = kahnG ld f l) ∧ Hid (Below w.heap.size w wr) ∧ w0.heap.size ≤ wr.heap.size ∧ Hid (∀ b, (Value.slice a1 q c1).ownBlock = some b → (Value.slice av p cv).ownBlock ≠ some b))
  case atStart => exact ⟨0, m, f, c, ap, none, 0, l, [], rfl, rfl, hmf, Nat.le_refl _, Nat.zero_le _, hm, hmc, hc, c0, f0, c1, hE0, hl, hnd, hide ⟨rfl, by omega⟩, hide (Own.nil _ _), hide rfl, hb0, Nat.le_refl _, hide (fun b _ h => by cases h)⟩
  case round =>
    obtain ⟨p, q, f', c2, a1, av, cv, rem, out, rfl, rfl, hqf, hqm, hpm, hrl, hqc, hc2, k0, kf, k1, hR, hlt, hnd2, hpq, hown, hkk, hbr, hzr, hsep⟩ := hrel
    have z0 := cell_lt k0
    have z1 := cell_lt k1
    clear hE0 c0 c1 f0
    rcases Nat.eq_zero_or_pos q with hq0 | hq0
    · obtain rfl : q = 0 := hq0
      have hrem : rem = [] := List.eq_nil_of_length_eq_zero hrl.out
      have hfin := hide (show kahnG ld f l = out by rw [← hkk.out, hrem, kahnG_no (fun j hj => by simp at hj), List.append_nil])
      have hO := hide (hown.out.base_le (base' := w.heap.size) (by have := hz0.out; omega))
      go_wp2
      go_ret
      exact ⟨_, rfl, by rw [hfin.out]; exact hO.out, hbr.out⟩
    · have hI := hide (ix1K_any bg bo n w.heap.size (w.heap.size + 1) ld a1 q c2 rem wr wr.heap.size (Nat.le_refl _) (hL.later bg bo hbr.out) k1 k0 hrl.out hR.out hlt.out (by omega))
      obtain ⟨bs, hbs⟩ : ∃ bs, bs = rem.map fun b => freeG ld rem b := ⟨_, rfl⟩
      have hbl : bs.length = q := by rw [hbs, List.length_map]; exact hrl.out
      rw [← hbs] at hI
      have hbg := firstB_get bs 0
      have hbn := firstB_none bs 0
      have hrg := firstB_range bs 0
      obtain ⟨x, hx⟩ : ∃ x, x = firstB bs 0 := ⟨_, rfl⟩
      rw [← hx] at hI hbg hbn hrg
      by_cases hneg : x < 0
      · have hfin := hide (show kahnG ld f l = out by
          rw [← hkk.out, kahnG_no (fun j hj => by
            have := hbn hneg j (by have := hrl.out; omega)
            simpa [hbs] using this), List.append_nil])
        have hO := hide (hown.out.base_le (base' := w.heap.size) (by have := hz0.out; omega))
        replace hx := hide hx
        replace hbs := hide hbs
        replace hbl := hide hbl
        clear hbg hbn
        go_wp2_with fail
        refine hI.out.mono ?_
        rintro e w1 ⟨rfl, hb1⟩
        have hO1 := hide (hO.out.stays hb1)
        have hB1 := hide (hbr.out.trans (hb1.mono hbr.out.size))
        go_wp2
        go_ret
        exact ⟨_, rfl, by rw [hfin.out]; exact hO1.out, hB1.out⟩
      · obtain ⟨i, hib, hxi, hi1, hi2⟩ := hbg (by omega)
        rw [Nat.zero_add] at hxi
        have hiq : i < q := by omega
        have hir : i < rem.length := by have := hrl.out; omega
        obtain ⟨f'', rfl⟩ : ∃ f'', f' = f'' + 1 := ⟨f' - 1, by omega⟩
        have hka := kahnG_at (k := f'') hnd2.out hir (by simpa [hbs] using hi1) (fun j hj => by simpa [hbs] using hi2 j hj)
        obtain ⟨b, o, rfl, hbB, e1⟩ := hR.out.int i (by rw [ln_len]; exact hir)
        rw [ln_get] at e1
        have hvn := hlt.out _ (List.getElem_mem hir)
        generalize rem[i] = v at hka e1 hvn
        have hkk2 := hide (show (out ++ [v]) ++ kahnG ld f'' (rem.take i ++ rem.drop (i + 1)) = kahnG ld f l by rw [← hkk.out, hka]; simp)
        have hlt2 := hide (show ∀ v ∈ rem.take i ++ rem.drop (i + 1), v < n from fun v hv => hlt.out v (takeDrop_mem hv))
        have hnd3 := hide (takeDrop_nodup hnd2.out i)
        have hrl2 := hide (show (rem.take i ++ rem.drop (i + 1)).length = q - 1 by rw [List.length_append, List.length_take, List.length_drop]; have := hrl.out; omega)
        subst hxi
        replace hx := hide hx
        replace hbs := hide hbs
        replace hbl := hide hbl
        have ii : (0 : Int) ≤ (i : Int) ∧ (i : Int) < (q : Int) := by omega
        have hpq2 := hpq.out.2
        clear hbn hi1 hi2 hka hib hrg hneg
        go_wp2_with fail
        refine hI.out.mono ?_
        rintro e w1 ⟨rfl, hb1⟩
        have z1' := hb1.size
        have k0 := cu_below hb1 k0 z0
        have k1 := cu_below hb1 k1 z1
        have kf := fu_below hb1 kf z0
        have e1 := cu_below hb1 e1 hbB
        have hbw1 : b < w1.heap.size := by have := hbB; omega
        have zz0 := cell_lt k0
        have zz1 := cell_lt k1
        have hown := hide (hown.out.stays hb1)
        have hbr := hide (hbr.out.trans (hb1.mono hbr.out.size))
        have hR := hide ((hR.out.below hb1 (Nat.le_refl _)).mono z1')
        have hlo := hide (show (LN out).length = p by rw [ln_len]; exact hpq.out.1)
        clear hI hb1
        have hsp := hide (hsep.out b rfl)
        go_wp2_with (at_builtin; (refine wpList_push (e := 3) (enc := encI) (xs := (LN out)) (v := .slice av (p) cv) (base := w0.heap.size) rfl (.tmp 15) (.tmp 20) 29 rfl _ 8 Try.underlying29 info_int rfl ?d15 lenI oneI (p) ?d25 ?d35 ?d45 ⟨w1.heap.size, 0, none⟩ 1 (v : Int) ?d55 ?d65 ?d75 ?d85 ?d95 ?_); (case d15 => omega); (case d25 => exact hlo.out); (case d35 => rfl); (case d45 => exact (hown.out.alloc _)); (case d55 => rfl); (case d65 => exact newI _ _ _ _ rfl); (case d75 => omega); (case d85 => unfold maxLen; omega); (case d95 => first | omega | (simp; done) | (simp; omega)); intro g5 c5 w5 own5 hb5 hgr5 hg5 hgl5; have hb6 := unalloc hb5 (by omega); have z5 := hb6.size; have K0 := cu_below hb6 k0 (by simp; have := hz0.out; omega); have K1 := cu_below hb6 k1 (by simp; have := hz0.out; omega); have KF := fu_below hb6 kf (by simp; have := hz0.out; omega); have zk0 := cell_lt K0; have zk1 := cell_lt K1; have hR5 := hide (hR.out.grownI (o := .cells #[.int .i64 (v : Int)] 3) hgr5 hsp.out); have hb7 := hide (hbr.out.trans (hb6.mono (by have := hz0.out; omega))); replace own5 := hide own5; replace hb5 := hide hb5; replace hb6 := hide hb6; replace hgr5 := hide hgr5; clear k0 k1 kf e1)
        have hfl := hide (show (LN (rem.take i ++ rem.drop (i + 1))).length = q - 1 by rw [ln_len]; exact hrl2.out)
        have hsum : ([LN (rem.take i), LN (rem.drop (i + 1))] : List (List Int)).flatten = LN (rem.take i ++ rem.drop (i + 1)) := by simp [LN]
        have hw1 : IntKind.i64.wrap ((i : Int) + 1) = (i : Int) + 1 := by rw [IntKind.wrap_i64]; omega
        have hw2 : (0 : Int) ≤ (i : Int) + 1 := by omega
        have hw3 : (i : Int) + 1 ≤ (q : Int) := by omega
        have hw4 : ((i : Int) + 1).toNat = i + 1 := by omega
        have hw6 : (i : Int) ≤ (c2 : Int) := by omega
        have hCc : ∀ (ax : Option Addr) (W : World), Below w5.heap.size w5 W → (ax = some ⟨b, o + (i + 1), none⟩ ∨ (ax = some ⟨b, o, none⟩ ∧ q = i + 1)) → Calls Try.prog 179 #[.slice (some ⟨W.heap.size, 0, none⟩) 2 2] (W.alloc (.cells #[.slice (some ⟨b, o, none⟩) i c2, .slice ax (q - (i + 1)) (c2 - (i + 1))] 29)) fun e w' => ∃ v, e = .returned v ∧ Own encI 1 3 w' (W.heap.size + 1) v (LN (rem.take i ++ rem.drop (i + 1))) ∧ Below (W.heap.size + 1) (W.alloc (.cells #[.slice (some ⟨b, o, none⟩) i c2, .slice ax (q - (i + 1)) (c2 - (i + 1))] 29)) w' := fun ax W hW hax => by
          have hb' : Below w5.heap.size w5 (W.alloc (.cells #[.slice (some ⟨b, o, none⟩) i c2, .slice ax (q - (i + 1)) (c2 - (i + 1))] 29)) := up_alloc hW hW.size
          have hR6 := hR5.out.below hb' (Nat.le_refl _)
          have hWs := hW.size
          have := concatI_any 2 2 (some ⟨W.heap.size, 0, none⟩) [⟨some ⟨b, o, none⟩, i, c2⟩, ⟨ax, q - (i + 1), c2 - (i + 1)⟩] [LN (rem.take i), LN (rem.drop (i + 1))] (W.alloc (.cells #[.slice (some ⟨b, o, none⟩) i c2, .slice ax (q - (i + 1)) (c2 - (i + 1))] 29)) (W.heap.size + 1) (by simp) rfl rfl (row_two3 W 29 ⟨some ⟨b, o, none⟩, i, c2⟩ ⟨ax, q - (i + 1), c2 - (i + 1)⟩) (fun j hj => by
            have hj2 : j = 0 ∨ j = 1 := by omega
            rcases hj2 with rfl | rfl
            · refine ⟨by simp only [List.getElem_cons_zero, ln_len, List.length_take]; omega, ?_⟩
              have h := hR6.takeI' i
              rw [show (LN rem).take i = LN (rem.take i) by simp [LN, List.map_take]] at h
              exact h.mono (by omega)
            · refine ⟨by simp only [List.getElem_cons_succ, List.getElem_cons_zero, ln_len, List.length_drop]; have := hrl.out; omega, ?_⟩
              rcases hax with rfl | ⟨rfl, hq1⟩
              · have h := hR6.dropI' (i + 1)
                rw [show (LN rem).drop (i + 1) = LN (rem.drop (i + 1)) by simp [LN, List.map_drop]] at h
                exact h.mono (by omega)
              · have h0 : rem.drop (i + 1) = [] := List.drop_of_length_le (by have := hrl.out; omega)
                show Row encI 1 _ _ _ (LN (rem.drop (i + 1)))
                rw [h0]
                exact Row.nil _ _ _ _ _) (by omega) (by rw [hsum, hfl.out]; omega)
          rw [hsum] at this
          simpa using this
        replace hCc := hide hCc
        clear hsum
        by_cases hcc : c2 = i + 1
        · subst hcc
          obtain rfl : q = i + 1 := by omega
          have hw7 : (i : Int) ≤ (i : Int) + 1 := by omega
          have hCx := hide (show ∀ (W : World), Below w5.heap.size w5 W → Calls Try.prog 179 #[.slice (some ⟨W.heap.size, 0, none⟩) 2 2] (W.alloc (.cells #[.slice (some ⟨b, o, none⟩) i (i + 1), .slice (some ⟨b, o, none⟩) 0 0] 29)) fun e w' => ∃ v, e = .returned v ∧ Own encI 1 3 w' (W.heap.size + 1) v (LN (rem.take i ++ rem.drop (i + 1))) ∧ Below (W.heap.size + 1) (W.alloc (.cells #[.slice (some ⟨b, o, none⟩) i (i + 1), .slice (some ⟨b, o, none⟩) 0 0] 29)) w' from fun W hW => by
            have := hCc.out (some ⟨b, o, none⟩) W hW (.inr ⟨rfl, rfl⟩)
            simpa using this)
          clear hCc
          go_region_law (first
            | (go_simp; go_at_call 179; refine (hCx.out _ (by first | exact below_drew _ | exact Below.refl _ _)).mono ?_; rintro e w6 ⟨v6, rfl, own6, hb8⟩; obtain ⟨a6, c6, rfl⟩ := own6.shape hfl.out; have hb8' : Below w5.heap.size w5 w6 := (by first | exact unalloc (hb8.mono (by simp)) (by simp) | exact (below_drew _).trans (unalloc (hb8.mono (by simp)) (by simp))); have L0 := cu_below hb8' K0 zk0; have LF := fu_below hb8' KF zk0; have zl0 := cell_lt L0; have L1 := cu_below hb8' K1 zk1; have own6 := own6.base_le (base' := w5.heap.size + 1) (by first | (simp; done) | exact Nat.le_refl _); replace own6 := hide own6; replace hb8 := hide hb8; replace hb8' := hide hb8'))
          all_goals
            have hzz := hz0.out
            have hO6 := hide (own6.out.elsewhere (p := ⟨w.heap.size, 0, none⟩) (fun e => by have := (own6.out.block_lt _ e).1; simp at this; omega) (.slice a6 i c6))
            have hO5 := hide ((own5.out.stays hb8'.out).elsewhere (p := ⟨w.heap.size, 0, none⟩) (fun e => by have := (own5.out.block_lt _ e).1; simp at this; omega) (.slice a6 i c6))
            have hsz := hide (hb8'.out.size)
            have hcap : i ≤ c6 ∧ c6 ≤ 9223372036854775807 := by
              obtain ⟨a', c', hv', _, h3, h4⟩ := own6.out.row lenI
              injection hv' with g1 g2 g3
              rw [hfl.out] at h3
              unfold maxLen at h4
              omega
            have hRow := hide (show Row encI 1 (w6.setCell ⟨w.heap.size, 0, none⟩ (.slice a6 i c6)) (w6.setCell ⟨w.heap.size, 0, none⟩ (.slice a6 i c6)).heap.size a6 (LN (rem.take i ++ rem.drop (i + 1))) by
              obtain ⟨a', c', hv', hr', _⟩ := hO6.out.row lenI
              injection hv' with g1 g2 g3
              subst g1
              exact hr')
            have hBf := hide (show Below w.heap.size w (w6.setCell ⟨w.heap.size, 0, none⟩ (.slice a6 i c6)) from up_set (hb7.out.trans (hb8'.out.mono (by omega))) (Nat.le_refl _))
            have hsp6 := hide (show ∀ b, (Value.slice a6 i c6).ownBlock = some b → (Value.slice (some ⟨g5, 0, none⟩) (p + 1) c5).ownBlock ≠ some b from fun b h1 h2 => by
              have h3 := (own6.out.block_lt b h1).1
              have h4 := (own5.out.block_lt b h2).2
              omega)
            have hLNo := hide (show LN (out ++ [v]) = LN out ++ [(v : Int)] by simp [LN])
            have L0' := World.cell?_setCell_same w6 ⟨w.heap.size, 0, none⟩ (.slice a6 i c6) L0
            have L1' : (w6.setCell ⟨w.heap.size, 0, none⟩ (.slice a6 i c6)).cell? ⟨w.heap.size + 1, 0, none⟩ = some (.func (.func 104) #[] #[.pointer (some ⟨bg, 0, none⟩), .pointer (some ⟨bo, 0, none⟩)]) := cu_set L1 (by simp)
            have LF' : (w6.setCell ⟨w.heap.size, 0, none⟩ (.slice a6 i c6)).frozen? ⟨w.heap.size, 0, none⟩ = false := fu_set LF
            have hsz2 : w0.heap.size ≤ (w6.setCell ⟨w.heap.size, 0, none⟩ (.slice a6 i c6)).heap.size := by have := hsz.out; simp; omega
            have hrl3 := hide (show (rem.take i ++ rem.drop (i + 1)).length = i from hrl2.out.trans (by omega))
            have hpq3 := hide (show (out ++ [v]).length = p + 1 ∧ p + 1 + i = m by have := hpq.out; rw [List.length_append, this.1]; exact ⟨rfl, by omega⟩)
            generalize (w6.setCell ⟨w.heap.size, 0, none⟩ (.slice a6 i c6)) = W9 at hO6 hO5 hRow hBf L0' L1' LF' hsz2 ⊢
            clear L0 L1 LF K0 K1 KF own6 own5 hb8 hb5 hb6 hgr5 hR5 hCx hO6
            go_wp2
            go_roundg i
            case measure => omega
            case rel => exact ⟨p + 1, i, f'', c6, a6, some ⟨g5, 0, none⟩, c5, rem.take i ++ rem.drop (i + 1), out ++ [v], rfl, rfl, by omega, by omega, by omega, hrl3, hcap.1, hcap.2, L0', LF', L1', hRow, hlt2, hnd3, hpq3, hide (by rw [hLNo.out]; exact hO5.out), hkk2, hBf, hsz2, hsp6⟩
        · have hcc2 : ¬ (c2 = i + 1) := hcc
          have hci : (i : Int) ≤ (c2 : Int) := by omega
          have hCx := hide (fun (W : World) (hW : Below w5.heap.size w5 W) => hCc.out (some ⟨b, o + (i + 1), none⟩) W hW (.inl rfl))
          clear hCc hcc
          go_region_law (first
            | (go_simp; go_at_call 179; refine (hCx.out _ (by first | exact below_drew _ | exact Below.refl _ _)).mono ?_; rintro e w6 ⟨v6, rfl, own6, hb8⟩; obtain ⟨a6, c6, rfl⟩ := own6.shape hfl.out; have hb8' : Below w5.heap.size w5 w6 := (by first | exact unalloc (hb8.mono (by simp)) (by simp) | exact (below_drew _).trans (unalloc (hb8.mono (by simp)) (by simp))); have L0 := cu_below hb8' K0 zk0; have LF := fu_below hb8' KF zk0; have zl0 := cell_lt L0; have L1 := cu_below hb8' K1 zk1; have own6 := own6.base_le (base' := w5.heap.size + 1) (by first | (simp; done) | exact Nat.le_refl _); replace own6 := hide own6; replace hb8 := hide hb8; replace hb8' := hide hb8'))
          all_goals
            have hzz := hz0.out
            have hO6 := hide (own6.out.elsewhere (p := ⟨w.heap.size, 0, none⟩) (fun e => by have := (own6.out.block_lt _ e).1; simp at this; omega) (.slice a6 (q - 1) c6))
            have hO5 := hide ((own5.out.stays hb8'.out).elsewhere (p := ⟨w.heap.size, 0, none⟩) (fun e => by have := (own5.out.block_lt _ e).1; simp at this; omega) (.slice a6 (q - 1) c6))
            have hsz := hide (hb8'.out.size)
            have hcap : (q - 1) ≤ c6 ∧ c6 ≤ 9223372036854775807 := by
              obtain ⟨a', c', hv', _, h3, h4⟩ := own6.out.row lenI
              injection hv' with g1 g2 g3
              rw [hfl.out] at h3
              unfold maxLen at h4
              omega
            have hRow := hide (show Row encI 1 (w6.setCell ⟨w.heap.size, 0, none⟩ (.slice a6 (q - 1) c6)) (w6.setCell ⟨w.heap.size, 0, none⟩ (.slice a6 (q - 1) c6)).heap.size a6 (LN (rem.take i ++ rem.drop (i + 1))) by
              obtain ⟨a', c', hv', hr', _⟩ := hO6.out.row lenI
              injection hv' with g1 g2 g3
              subst g1
              exact hr')
            have hBf := hide (show Below w.heap.size w (w6.setCell ⟨w.heap.size, 0, none⟩ (.slice a6 (q - 1) c6)) from up_set (hb7.out.trans (hb8'.out.mono (by omega))) (Nat.le_refl _))
            have hsp6 := hide (show ∀ b, (Value.slice a6 (q - 1) c6).ownBlock = some b → (Value.slice (some ⟨g5, 0, none⟩) (p + 1) c5).ownBlock ≠ some b from fun b h1 h2 => by
              have h3 := (own6.out.block_lt b h1).1
              have h4 := (own5.out.block_lt b h2).2
              omega)
            have hLNo := hide (show LN (out ++ [v]) = LN out ++ [(v : Int)] by simp [LN])
            have L0' := World.cell?_setCell_same w6 ⟨w.heap.size, 0, none⟩ (.slice a6 (q - 1) c6) L0
            have L1' : (w6.setCell ⟨w.heap.size, 0, none⟩ (.slice a6 (q - 1) c6)).cell? ⟨w.heap.size + 1, 0, none⟩ = some (.func (.func 104) #[] #[.pointer (some ⟨bg, 0, none⟩), .pointer (some ⟨bo, 0, none⟩)]) := cu_set L1 (by simp)
            have LF' : (w6.setCell ⟨w.heap.size, 0, none⟩ (.slice a6 (q - 1) c6)).frozen? ⟨w.heap.size, 0, none⟩ = false := fu_set LF
            have hsz2 : w0.heap.size ≤ (w6.setCell ⟨w.heap.size, 0, none⟩ (.slice a6 (q - 1) c6)).heap.size := by have := hsz.out; simp; omega
            have hrl3 := hide (show (rem.take i ++ rem.drop (i + 1)).length = (q - 1) from hrl2.out.trans (by omega))
            have hpq3 := hide (show (out ++ [v]).length = p + 1 ∧ p + 1 + (q - 1) = m by have := hpq.out; rw [List.length_append, this.1]; exact ⟨rfl, by omega⟩)
            generalize (w6.setCell ⟨w.heap.size, 0, none⟩ (.slice a6 (q - 1) c6)) = W9 at hO6 hO5 hRow hBf L0' L1' LF' hsz2 ⊢
            clear L0 L1 LF K0 K1 KF own6 own5 hb8 hb5 hb6 hgr5 hR5 hCx hO6
            go_wp2
            go_roundg (q - 1)
            case measure => omega
            case rel => exact ⟨p + 1, (q - 1), f'', c6, a6, some ⟨g5, 0, none⟩, c5, rem.take i ++ rem.drop (i + 1), out ++ [v], rfl, rfl, by omega, by omega, by omega, hrl3, hcap.1, hcap.2, L0', LF', L1', hRow, hlt2, hnd3, hpq3, hide (by rw [hLNo.out]; exact hO5.out), hkk2, hBf, hsz2, hsp6⟩
end Go.Proofs.Ytcehdpeeaogpiaa
