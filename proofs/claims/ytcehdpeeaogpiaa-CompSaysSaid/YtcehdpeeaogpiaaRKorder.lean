/-
  The reference's KnotOrder, whole. Conditions: a right net.
-/
import Derived.Test.YtcehdpeeaogpiaaRKord
namespace Go.Proofs.Ytcehdpeeaogpiaa
open Go.RowKit
set_option linter.unusedSimpArgs false
set_option linter.unusedVariables false
theorem leadsK_of (K : Nat → Nat) (n bg bo ck cn : Nat) (ak an : Option Addr) (es : List Ed) (w : World) (B : Nat) (hB : B ≤ w.heap.size) (hE : Row encE 3 w B an es) (g1 : w.cell? ⟨bg, 1, none⟩ = some (.slice an es.length cn)) (k0 : w.cell? ⟨bo, 0, none⟩ = some (.slice ak n ck)) (hK : Row encI 1 w w.heap.size ak (LI n (ZI K))) (hn : n ≤ 64) (hl : es.length ≤ 600) (hes : Right n es) : LeadsK bg bo n (ldE (EK (nes es) K)) w :=
  fun a b w' _ _ hb => ko1_any K n bg bo ck a b cn ak an es w' B (Nat.le_trans hB hb.size) (hE.below hb hB) (cu_below hb g1 (cell_lt g1)) (cu_below hb k0 (cell_lt k0)) ((hK.below hb (Nat.le_refl _)).mono hb.size) hn hl hes
theorem reps_succ (k : Nat) (K : Nat → Nat) : repsK (k + 1) K = repsK k K ++ (if k = K k then [k] else []) := by
  unfold repsK
  rw [List.range_succ, List.filter_append, filter_one]
  by_cases h : k = K k
  · rw [if_pos (decide_eq_true h), if_pos h]
  · rw [if_neg (fun h' => h (of_decide_eq_true h')), if_neg h]
theorem reps_len (k : Nat) (K : Nat → Nat) : (repsK k K).length ≤ k := by
  unfold repsK
  exact Nat.le_trans (List.length_filter_le _ _) (by simp)
theorem own_rowIk {e : TypeId} {w : World} {base n c : Nat} {a : Option Addr} {xs : List Int} (h : Own encI 1 e w base (.slice a n c) xs) : Row encI 1 w w.heap.size a xs ∧ n ≤ c := by
  obtain ⟨a', c', hv, hr, h1, _⟩ := h.row (by intro x; rfl)
  simp only [Value.slice.injEq] at hv
  obtain ⟨rfl, rfl, rfl⟩ := hv
  exact ⟨hr, h1⟩
set_option maxRecDepth 100000 in
set_option maxHeartbeats 4000000 in
theorem rkord_any (n : Nat) (an : Option Addr) (cap : Nat) (es : List Ed) (w : World) (B : Nat) (hB : B ≤ w.heap.size) (hE : Row encE 3 w B an es) (hn1 : 1 ≤ n) (hn : n ≤ 64) (hl : es.length ≤ 600) (hes : Right n es) :
    Calls Try.prog 38 #[.agg #[.int .i64 (n : Int), .slice an es.length cap]] w (OrdBack (kahnK n (nes es) (CompK n es)) w) := by
  have hN := hide (fun w' hb hE' => knots_any n an cap es w' B hb hE' hn1 hn hl hes)
  obtain ⟨K, hKe⟩ : ∃ K, K = CompK n es := ⟨_, rfl⟩
  rw [← hKe] at hN ⊢
  replace hKe := hide hKe
  have hAns := hide (show ∀ v e w', e = .returned v → Own encI 1 3 w' w.heap.size v (LN (kahnK n (nes es) K)) → Below w.heap.size w w' → OrdBack (kahnK n (nes es) K) w e w' from fun v e w' a b c => ⟨v, a, b, c⟩)
  replace hE := hide hE
  replace hes := hide hes
  generalize OrdBack (kahnK n (nes es) K) w = P at hAns ⊢
  go_enter Try.func38, Try.ntmps38
  go_wp2_with fail
  refine (hN.out _ (by simp <;> omega) (hE.out.below ((by repeat (first | with_reducible exact Below.refl _ _ | with_reducible assumption | with_reducible refine up_drewN ?_ | with_reducible refine up_drew ?_ | (with_reducible refine up_alloc ?_ ?_; rotate_left; (first | omega | (simp <;> omega) | simp)) | (with_reducible refine up_set ?_ ?_; rotate_left; (first | omega | (simp <;> omega) | simp)) | (with_reducible refine Below.trans ?_ (Below.mono (by with_reducible assumption) ?_); rotate_left; (first | omega | (simp <;> omega) | simp)))) : Below w.heap.size w _) hB)).mono ?_
  rintro e w1 ⟨ak, ck, rfl, ownK, hb1⟩
  have k1 : w1.cell? ⟨w.heap.size, 1, none⟩ = some (.slice an es.length cap) := cu_below hb1 (by simp [go_sem]) (by simp <;> omega)
  have hz1 : w.heap.size < w1.heap.size := cell_lt k1
  have hrk := hide (own_rowIk ownK).1
  have hbw1 := hide (show Below w.heap.size w w1 from (by repeat (first | with_reducible exact Below.refl _ _ | with_reducible assumption | with_reducible refine up_drewN ?_ | with_reducible refine up_drew ?_ | (with_reducible refine up_alloc ?_ ?_; rotate_left; (first | omega | (simp <;> omega) | simp)) | (with_reducible refine up_set ?_ ?_; rotate_left; (first | omega | (simp <;> omega) | simp)) | (with_reducible refine Below.trans ?_ (Below.mono (by with_reducible assumption) ?_); rotate_left; (first | omega | (simp <;> omega) | simp)))))
  clear hb1 hN ownK
  go_upto_region 2 with fail
  obtain ⟨wT, hwT⟩ : ∃ wT, wT = w1.alloc (.cells #[.slice ak n ck] 29) := ⟨_, rfl⟩
  have hbT1 : Below w1.heap.size w1 wT := by rw [hwT]; exact (Below.refl _ _).alloc (Nat.le_refl _) _
  have o0 : wT.cell? ⟨w1.heap.size, 0, none⟩ = some (.slice ak n ck) := by rw [hwT]; simp [go_sem]
  have m1 := cu_below hbT1 k1 hz1
  have hrT := hide ((hrk.out.below hbT1 (Nat.le_refl _)).mono hbT1.size)
  have hbT := hide (hbw1.out.trans (hbT1.mono (by omega)))
  have hzT := cell_lt o0
  simp only at hzT
  simp only [← hwT]
  clear hwT hbT1 k1 hrk hbw1
  obtain ⟨bo, hbo⟩ : ∃ x, x = w1.heap.size := ⟨_, rfl⟩
  simp only [← hbo] at o0 hzT hz1 ⊢
  clear hbo
  go_wp2
  go_loopw [4, 5, 6, 11] (fun s4 _ _ i wr => ∃ (k m : Nat) (av : Option Addr) (cv : Nat), k ≤ n ∧ m ≤ k ∧ i = .int .i64 k ∧ s4 = .slice av m cv ∧ Hid ((repsK k K).length = m) ∧ Hid (Own encI 1 3 wr wT.heap.size (.slice av m cv) (LN (repsK k K))) ∧ Hid (Below wT.heap.size wT wr)) (fun _ _ _ i _ => n - (intOf i).toNat)
  case atStart => exact ⟨0, 0, none, 0, Nat.zero_le _, Nat.le_refl _, rfl, rfl, rfl, Own.nil _ _, Below.refl _ _⟩
  case round =>
    obtain ⟨k, m, av, cv, hk, hmk, rfl, rfl, hm, hA, hb⟩ := hrel
    have hzr := hb.out.size
    by_cases hlt : k < n
    · have ik : (0 : Int) ≤ (k : Int) ∧ (k : Int) < (n : Int) := by omega
      have hrr := (hrT.out.below hb.out (Nat.le_refl _))
      obtain ⟨b1, o1, rfl, hbl, ck1⟩ := hrr.atI k hlt
      have hbl2 : b1 < wr.heap.size := by omega
      have zk : ZI K k = (K k : Int) := rfl
      rw [zk] at ck1
      have hsu := reps_succ k K
      clear hrr zk
      by_cases hkk : k = K k
      · have q1 : ((k : Int) == (K k : Int)) = true := by simp; omega
        rw [if_pos hkk] at hsu
        have hsl := hide (show (repsK (k + 1) K).length = m + 1 by rw [hsu, List.length_append, hm.out]; rfl)
        have hsn := hide (show LN (repsK k K) ++ [(k : Int)] = LN (repsK (k + 1) K) by rw [hsu]; simp [LN])
        have hlm := hide (show (LN (repsK k K)).length = m by rw [ln_len]; exact hm.out)
        generalize (K k : Int) = kz at ck1 q1
        replace hkk := hide hkk
        replace hsu := hide hsu
        go_wp2_with (at_builtin; (refine wpList_pushL (e := 3) (enc := encI) (xs := (LN (repsK k K))) (v := .slice av (m) cv) (base := wT.heap.size) rfl (.tmp 19) (.tmp 21) 29 rfl _ 8 Try.underlying29 info_int rfl ?d18 lenI oneI (m) ?d28 ?d38 ?d48 ⟨wr.heap.size, 0, none⟩ 1 (k : Int) ?d58 ?d68 ?d78 ?d88 ?d98 ?_); (case d18 => omega); (case d28 => exact hlm.out); (case d38 => rfl); (case d48 => exact (hA.out.alloc _)); (case d58 => rfl); (case d68 => exact newI _ _ _ _ rfl); (case d78 => omega); (case d88 => unfold maxLen; omega); (case d98 => first | omega | (simp; done) | (simp; omega)); intro g8 c8 w8 own8 hb8 hgr8 hat8 hgl8; replace own8 := hide own8; replace hb8 := hide hb8; replace hgr8 := hide hgr8; replace hat8 := hide hat8)
        go_roundw
        case rel =>
          refine ⟨k + 1, m + 1, some ⟨g8, 0, none⟩, c8, by omega, by omega, by go_num, rfl, hsl, hide ?_, hide (hb.out.trans (unalloc hb8.out (by omega)))⟩
          rw [← hsn.out]
          exact own8.out
        case measure => simp [intOf]; omega
      · have q1 : ((k : Int) == (K k : Int)) = false := by simp; omega
        rw [if_neg hkk, List.append_nil] at hsu
        rw [← hsu] at hm hA
        generalize (K k : Int) = kz at ck1 q1
        replace hkk := hide hkk
        replace hsu := hide hsu
        go_wp2
        go_roundw
        case rel => exact ⟨k + 1, m, av, cv, by omega, by omega, by go_num, rfl, hm, hA, hb⟩
        case measure => simp [intOf]; omega
    · obtain rfl : n = k := by omega
      have g1 := cu_below hb.out m1 (by simp; omega)
      have k0 := cu_below hb.out o0 hzT
      have hbR := hide (hbT.out.trans (hb.out.mono (by omega)))
      have hL := hide (leadsK_of K n w.heap.size bo ck cap ak an es wr B (by have := hbR.out.size; omega) (hE.out.below hbR.out hB) g1 k0 ((hrT.out.below hb.out (Nat.le_refl _)).mono hb.out.size) hn hl hes.out)
      have hro := own_rowIk hA.out
      have hcm : cv ≤ 9223372036854775807 := by
        obtain ⟨_, _, hv, _, _, h9⟩ := hA.out.row (by intro x; rfl)
        simp only [Value.slice.injEq] at hv
        obtain ⟨_, _, rfl⟩ := hv
        unfold maxLen at h9
        omega
      have hO := hide (orderedK_any w.heap.size bo n m m cv (ldE (EK (nes es) K)) av (repsK n K) wr hL.out hm.out hro.1 (fun v hv => (reps_mem.1 hv).1) (List.nodup_range.sublist List.filter_sublist) (by omega) (Nat.le_refl _) hro.2 hcm)
      have hkd : kahnG (ldE (EK (nes es) K)) m (repsK n K) = kahnK n (nes es) K := by rw [← hm.out]; rfl
      rw [hkd] at hO
      clear hL hro hkd hA
      go_wp2_with fail
      refine hO.out.mono ?_
      rintro e w2 ⟨v, rfl, ownV, hb2⟩
      go_wp2
      exact hAns.out v _ _ rfl (ownV.base_le (by have := hbR.out.size; omega)) (hbR.out.trans (hb2.mono hbR.out.size))
end Go.Proofs.Ytcehdpeeaogpiaa
