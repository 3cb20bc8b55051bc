/-
  What walk.Join returns. Conditions: the slices read, bounds on the lengths.
-/
import Derived.Test.YtdpbkhempgghaaaRCut
import Derived.Deep.RegionLaw
namespace Go.Proofs.Ytdpbkhempgghaaa
open Go.RowKit
set_option linter.unusedSimpArgs false
set_option linter.unusedVariables false
/-- they meet -/
def Meet (xs ys : List Int) : Prop := 0 < xs.length ∧ 0 < ys.length ∧ xs.getD (xs.length - 1) 0 = ys.getD 0 0
theorem row_getD {w : World} {B : Nat} {a : Option Addr} {xs : List Int} (h : Row encI 1 w B a xs) (i : Nat) (hi : i < xs.length) : ∃ b o, a = some ⟨b, o, none⟩ ∧ b < B ∧ w.cell? ⟨b, o + i, none⟩ = some (.int .i64 (xs.getD i 0)) := by
  obtain ⟨b, o, h1, h2, h3⟩ := h.int i hi
  exact ⟨b, o, h1, h2, by rw [h3]; simp [List.getD, List.getElem?_eq_getElem hi]⟩
set_option maxRecDepth 100000 in
set_option maxHeartbeats 1000000 in
theorem join_bad (a b : Option Addr) (na nb ca cb : Nat) (xs ys : List Int) (hx : xs.length = na) (hy : ys.length = nb) (w : World) (B : Nat) (hB : B ≤ w.heap.size) (hA : Row encI 1 w B a xs) (hR : Row encI 1 w B b ys) (la : na ≤ 100000000) (lb : nb ≤ 100000000) (h : ¬ Meet xs ys) :
    Calls Try.prog 17 #[.slice a na ca, .slice b nb cb] w fun e w' => e = .returned (.tuple #[.slice none 0 0, .int .i64 1]) ∧ Below w.heap.size w w' := by
  by_cases h1 : na = 0
  · have q1 : ((na : Int) == 0) = true := by simp [h1]
    clear h1 h hx hA
    go_enter Try.func17, Try.ntmps17
    go_wp2
    go_quiet (fail)
    go_wp2
    go_ret2
    exact ⟨rfl, up_drewN (Below.refl _ _)⟩
  · have q1 : ((na : Int) == 0) = false := by simp [h1]
    by_cases h2 : nb = 0
    · have q2 : ((nb : Int) == 0) = true := by simp [h2]
      clear h1 h2 h hx hA hy hR
      go_enter Try.func17, Try.ntmps17
      go_wp2
      go_quiet (fail)
      go_wp2
      go_ret2
      exact ⟨rfl, up_drewN (Below.refl _ _)⟩
    · have q2 : ((nb : Int) == 0) = false := by simp [h2]
      obtain ⟨b1, o1, rfl, hb1, e1⟩ := row_getD hA (na - 1) (by omega)
      obtain ⟨b2, o2, rfl, hb2, e2⟩ := row_getD hR 0 (by omega)
      have hne : ¬ xs.getD (na - 1) 0 = ys.getD 0 0 := fun e => h ⟨by omega, by omega, by rw [hx]; exact e⟩
      generalize xs.getD (na - 1) 0 = x at e1 hne
      generalize ys.getD 0 0 = y at e2 hne
      have q3 : (x != y) = true := by simp [hne]
      have hw1 : IntKind.i64.wrap ((na : Int) - 1) = (na : Int) - 1 := by rw [IntKind.wrap_i64]; omega
      have hw2 : (0 : Int) ≤ (na : Int) - 1 ∧ (na : Int) - 1 < (na : Int) := by omega
      have hw3 : ((na : Int) - 1).toNat = na - 1 := by omega
      have hw4 : (0 : Int) < (nb : Int) := by omega
      have hw5 : (1 : Int) ≤ (na : Int) := by omega
      have hw6 : (0 : Int) ≤ (na : Int) - 1 := by omega
      have hw7 : (na : Int) - 1 < (na : Int) := by omega
      have e2 : w.cell? ⟨b2, o2, none⟩ = some (.int .i64 y) := by simpa using e2
      have l1 : b1 < w.heap.size := by omega
      have l2 : b2 < w.heap.size := by omega
      clear h1 h2 h hx hA hy hR hne
      go_enter Try.func17, Try.ntmps17
      go_wp2
      go_quiet (fail)
      go_wp2
      go_ret2
      exact ⟨rfl, up_drewN (Below.refl _ _)⟩
def JoinAns (xs ys : List Int) (w : World) (e : Ending) (w' : World) : Prop := ∃ v, e = .returned (.tuple #[v, .int .i64 0]) ∧ Own encI 1 3 w' w.heap.size v (xs ++ ys.drop 1) ∧ Below w.heap.size w w'
set_option maxRecDepth 100000 in
set_option maxHeartbeats 1000000 in
theorem join_ok (a b : Option Addr) (na nb ca cb : Nat) (xs ys : List Int) (hx : xs.length = na) (hy : ys.length = nb) (w : World) (B : Nat) (hB : B ≤ w.heap.size) (hA : Row encI 1 w B a xs) (hR : Row encI 1 w B b ys) (la : na ≤ 100000000) (lb : nb ≤ 100000000) (hcb : nb ≤ cb) (hc2 : cb ≤ maxLen) (h : Meet xs ys) :
    Calls Try.prog 17 #[.slice a na ca, .slice b nb cb] w (JoinAns xs ys w) := by
  obtain ⟨h1, h2, h3⟩ := h
  rw [hx] at h1 h3
  rw [hy] at h2
  have q1 : ((na : Int) == 0) = false := by simp; omega
  have q2 : ((nb : Int) == 0) = false := by simp; omega
  obtain ⟨b1, o1, rfl, hb1, e1⟩ := row_getD hA (na - 1) (by omega)
  obtain ⟨b2, o2, rfl, hb2, e2⟩ := row_getD hR 0 (by omega)
  rw [h3] at e1
  generalize ys.getD 0 0 = y at e1 e2
  have q3 : (y != y) = false := by simp
  have hw1 : IntKind.i64.wrap ((na : Int) - 1) = (na : Int) - 1 := by rw [IntKind.wrap_i64]; omega
  have hw2 : (0 : Int) ≤ (na : Int) - 1 ∧ (na : Int) - 1 < (na : Int) := by omega
  have hw3 : ((na : Int) - 1).toNat = na - 1 := by omega
  have hw4 : (0 : Int) < (nb : Int) := by omega
  have hw5 : (1 : Int) ≤ (na : Int) := by omega
  have hw6 : (0 : Int) ≤ (na : Int) - 1 := by omega
  have hw7 : (na : Int) - 1 < (na : Int) := by omega
  have hw8 : (1 : Int) ≤ (nb : Int) := by omega
  have e2 : w.cell? ⟨b2, o2, none⟩ = some (.int .i64 y) := by simpa using e2
  have l1 : b1 < w.heap.size := by omega
  have l2 : b2 < w.heap.size := by omega
  unfold maxLen at hc2
  have hsub : Row encI 1 w B (some ⟨b2, o2 + 1, none⟩) (ys.drop 1) := hR.dropI 1
  have hnil : cb = 1 → ys.drop 1 = [] := fun h => List.drop_of_length_le (by omega)
  have hdl : (ys.drop 1).length = nb - 1 := by rw [List.length_drop, hy]
  by_cases hcb1 : cb = 1
  · obtain rfl : nb = 1 := by omega
    subst hcb1
    have hys := hide (hnil rfl)
    have hrA := hide (hA.mono hB)
    replace hx := hide hx
    clear h1 h2 h3 hA hR hsub hnil hdl hy hw8
    go_enter Try.func17, Try.ntmps17
    go_wp2
    go_quiet (fail)
    obtain ⟨wx, hwx⟩ : ∃ wx : World, wx = w.drewN nq := ⟨_, rfl⟩
    have hbx := hide (show Below w.heap.size w wx by rw [hwx]; exact up_drewN (Below.refl _ _))
    have hzx := hbx.out.size
    simp only [← hwx]
    replace hwx := hide hwx
    have hr1 := hide (hrA.out.below hbx.out (Nat.le_refl _))
    clear hrA e1 e2
    go_wp2
    go_region_law (first
      | (refine step_pushAll (enc := encI) (base := w.heap.size) (v := .slice none 0 0) (xs := []) rfl (.const (.slice none 0 0)) (.tmp 26) 22 rfl _ 8 Try.underlying22 info_int rfl (by omega) lenI oneI 0 rfl rfl (Own.nil _ _) w.heap.size (some ⟨b1, o1, none⟩) na ca xs hx.out rfl (by first | exact hr1.out | exact hr1.out.below (below_drew _) hzx) (by omega) (by unfold maxLen; omega) (by first | omega | (simp; omega)) ?_; intro a2 c2 w2 own2 hb2 hg2; have hz2 : wx.heap.size ≤ w2.heap.size := hb2.size; replace own2 := hide own2; replace hb2 := hide hb2; replace hg2 := hide hg2)
      | (refine step_pushAll (enc := encI) (base := w.heap.size) rfl (.tmp 27) (.tmp 29) 22 rfl _ 8 Try.underlying22 info_int rfl (by omega) lenI oneI (0 + na) (by simp [hx.out]) ?e1 own2.out w.heap.size (some ⟨b2, o2, none⟩) 0 0 [] rfl ?e2 (Row.nil _ _ _ _ _) (by omega) (by unfold maxLen; omega) (by first | omega | (simp; omega)) ?_; (case e1 => simp [Act.eval, Act.put]); (case e2 => simp [Act.eval, Act.put]); intro a3 c3 w3 own3 hb3 hg3; replace own3 := hide own3; replace hb3 := hide hb3; replace hg3 := hide hg3))
    all_goals
      have hO := own3.out
      simp only [Nat.zero_add, Nat.add_zero, List.nil_append, List.append_nil] at hO
      have hO2 := hide (show Own encI 1 3 w3 w.heap.size _ (xs ++ ys.drop 1) by rw [hys.out, List.append_nil]; exact hO)
      have hB := hide (show Below w.heap.size w w3 by first | exact (hbx.out.trans hb2.out).trans hb3.out | exact (hbx.out.trans ((below_drew _).mono hzx |>.trans hb2.out)).trans hb3.out)
      clear own3 own2 hb2 hb3 hg2 hg3 hO
      go_wp2
      go_ret2
      exact ⟨_, rfl, hO2.out, hB.out⟩
  · have hcb2 : ¬ (cb = 1) := hcb1
    replace hsub := hide (hsub.mono hB)
    replace hdl := hide hdl
    have hrA := hide (hA.mono hB)
    replace hx := hide hx
    clear h1 h2 h3 hA hR hnil hcb1 hy
    go_enter Try.func17, Try.ntmps17
    go_wp2
    go_quiet (fail)
    obtain ⟨wx, hwx⟩ : ∃ wx : World, wx = w.drewN nq := ⟨_, rfl⟩
    have hbx := hide (show Below w.heap.size w wx by rw [hwx]; exact up_drewN (Below.refl _ _))
    have hzx := hbx.out.size
    simp only [← hwx]
    replace hwx := hide hwx
    have hr1 := hide (hrA.out.below hbx.out (Nat.le_refl _))
    have hr2 := hide (hsub.out.below hbx.out (Nat.le_refl _))
    clear hrA e1 e2
    go_wp2
    go_region_law (first
      | (refine step_pushAll (enc := encI) (base := w.heap.size) (v := .slice none 0 0) (xs := []) rfl (.const (.slice none 0 0)) (.tmp 26) 22 rfl _ 8 Try.underlying22 info_int rfl (by omega) lenI oneI 0 rfl rfl (Own.nil _ _) w.heap.size (some ⟨b1, o1, none⟩) na ca xs hx.out rfl (by first | exact hr1.out | exact hr1.out.below (below_drew _) hzx) (by omega) (by unfold maxLen; omega) (by first | omega | (simp; omega)) ?_; intro a2 c2 w2 own2 hb2 hg2; have hz2 : wx.heap.size ≤ w2.heap.size := hb2.size; have hr3 := hide (show Row encI 1 w2 w.heap.size (some ⟨b2, o2 + 1, none⟩) (ys.drop 1) by first | exact hr2.out.below hb2 (Nat.le_refl _) | exact (hr2.out.below (below_drew _) hzx).below hb2 (Nat.le_refl _)); replace own2 := hide own2; replace hb2 := hide hb2; replace hg2 := hide hg2)
      | (refine step_pushAll (enc := encI) (base := w.heap.size) rfl (.tmp 27) (.tmp 29) 22 rfl _ 8 Try.underlying22 info_int rfl (by omega) lenI oneI (0 + na) (by simp [hx.out]) ?e1 own2.out w.heap.size (some ⟨b2, o2 + 1, none⟩) (nb - 1) (cb - 1) (ys.drop 1) hdl.out ?e2 hr3.out (by omega) (by unfold maxLen; omega) (by first | omega | (simp; omega)) ?_; (case e1 => simp [Act.eval, Act.put]); (case e2 => simp [Act.eval, Act.put]); intro a3 c3 w3 own3 hb3 hg3; replace own3 := hide own3; replace hb3 := hide hb3; replace hg3 := hide hg3))
    all_goals
      have hO := own3.out
      simp only [Nat.zero_add, Nat.add_zero, List.nil_append, List.append_nil] at hO
      have hO2 := hide (show Own encI 1 3 w3 w.heap.size _ (xs ++ ys.drop 1) by  exact hO)
      have hB := hide (show Below w.heap.size w w3 by first | exact (hbx.out.trans hb2.out).trans hb3.out | exact (hbx.out.trans ((below_drew _).mono hzx |>.trans hb2.out)).trans hb3.out)
      clear own3 own2 hb2 hb3 hg2 hg3 hO
      go_wp2
      go_ret2
      exact ⟨_, rfl, hO2.out, hB.out⟩
end Go.Proofs.Ytdpbkhempgghaaa
