/-
  What heur.bound and the reference's Bound return of two tables. Conditions: the tables read, their numbers are no more than Far and none below 0.
-/
import Derived.Test.YtcehdpeeaogpiaaROut
import Derived.BigQuiet
import Derived.Deep.QuietTactic
import Derived.WalkSpells
import Derived.WalkLawsBesides
namespace Go.Proofs.Ytcehdpeeaogpiaa
open Go.RowKit
set_option linter.unusedSimpArgs false
set_option linter.unusedVariables false
def apartF (a b : Int) : Int := if a = 1099511627776 then 0 else if b = 1099511627776 then 1099511627776 else if b < a then 0 else b - a
def at2 (rs : List (List Int)) (i j : Nat) : Int := (rs.getD i []).getD j 0
def bndK (r1 r2 : List (List Int)) (v t : Nat) : Nat → Int | 0 => 0 | k + 1 => max (max (bndK r1 r2 v t k) (apartF (at2 r1 k v) (at2 r1 k t))) (apartF (at2 r2 k t) (at2 r2 k v))
/-- rows of n numbers, from 0 to Far -/
def Fit (n : Nat) (rs : List (List Int)) : Prop := ∀ r ∈ rs, r.length = n ∧ ∀ x ∈ r, 0 ≤ x ∧ x ≤ FAR
theorem at2_get {rs : List (List Int)} (i j : Nat) (hi : i < rs.length) (hj : j < (rs[i]).length) : at2 rs i j = (rs[i])[j] := by
  simp [at2, List.getD, List.getElem?_eq_getElem hi, List.getElem?_eq_getElem hj]
theorem at2_fit {n : Nat} {rs : List (List Int)} (h : Fit n rs) (i j : Nat) : 0 ≤ at2 rs i j ∧ at2 rs i j ≤ FAR := by
  by_cases hi : i < rs.length
  · obtain ⟨h1, h2⟩ := h _ (List.getElem_mem hi)
    by_cases hj : j < (rs[i]).length
    · rw [at2_get i j hi hj]
      exact h2 _ (List.getElem_mem hj)
    · have : at2 rs i j = 0 := by simp [at2, List.getD, List.getElem?_eq_getElem hi, List.getElem?_eq_none (Nat.le_of_not_lt hj)]
      rw [this]; simp [FAR]
  · have : at2 rs i j = 0 := by simp [at2, List.getD, List.getElem?_eq_none (Nat.le_of_not_lt hi)]
    rw [this]; simp [FAR]
theorem Tab.at2 {n : Nat} {rs : List (List Int)} (h : Fit n rs) {w : World} {B : Nat} {a : Option Addr} (hT : Tab w B a n rs) (i : Nat) (hi : i < rs.length) (hn : 0 < n) : ∃ b o, a = some ⟨b, o, none⟩ ∧ b < B ∧ ∃ b1 o1 c1, b1 < B ∧ w.cell? ⟨b, o + i, none⟩ = some (.slice (some ⟨b1, o1, none⟩) n c1) ∧ ∀ j, j < n → w.cell? ⟨b1, o1 + j, none⟩ = some (.int .i64 (at2 rs i j)) := by
  obtain ⟨b, o, ai, ci, h1, h2, h3, h4⟩ := hT i hi
  obtain ⟨h5, _⟩ := h _ (List.getElem_mem hi)
  obtain ⟨b1, o1, rfl, h6, _⟩ := h4.int 0 (by omega)
  refine ⟨b, o, h1, h2, b1, o1, ci, h6, h3, fun j hj => ?_⟩
  obtain ⟨b2, o2, e1, _, h7⟩ := h4.int j (by omega)
  simp only [Option.some.injEq, Addr.mk.injEq] at e1
  obtain ⟨rfl, rfl, _⟩ := e1
  rw [at2_get i j hi (by omega)]
  exact h7
theorem apartF_range {a b : Int} (ha : 0 ≤ a ∧ a ≤ FAR) (hb : 0 ≤ b ∧ b ≤ FAR) : 0 ≤ apartF a b ∧ apartF a b ≤ FAR := by
  unfold FAR at *
  unfold apartF
  split <;> (try split) <;> (try split) <;> omega
theorem bndK_range {n : Nat} {r1 r2 : List (List Int)} (h1 : Fit n r1) (h2 : Fit n r2) (v t : Nat) : ∀ k, 0 ≤ bndK r1 r2 v t k ∧ bndK r1 r2 v t k ≤ FAR
  | 0 => by simp [bndK, FAR]
  | k + 1 => by
    have ih := bndK_range h1 h2 v t k
    have a1 := apartF_range (at2_fit h1 k v) (at2_fit h1 k t)
    have a2 := apartF_range (at2_fit h2 k t) (at2_fit h2 k v)
    simp only [bndK]
    omega
theorem least_any (a b : Int) (ha : 0 ≤ a ∧ a ≤ FAR) (hb : 0 ≤ b ∧ b ≤ FAR) (w : World) : Calls Try.prog 172 #[.int .i64 a, .int .i64 b] w fun e w' => e = .returned (.int .i64 (apartF a b)) ∧ w' = w := by
  have hr : Hid (apartF a b = if a = 1099511627776 then 0 else if b = 1099511627776 then 1099511627776 else max 0 (b - a)) := by
    simp only [Hid, apartF]
    by_cases h1 : a = 1099511627776
    · rw [if_pos h1, if_pos h1]
    · rw [if_neg h1, if_neg h1]
      by_cases h2 : b = 1099511627776
      · rw [if_pos h2, if_pos h2]
      · rw [if_neg h2, if_neg h2]
        split <;> omega
  unfold FAR at ha hb
  by_cases h1 : a = 1099511627776
  · have hr2 := hide (show apartF a b = 0 by rw [hr.out, if_pos h1])
    have q1 : (a == 1099511627776) = true := by simp [h1]
    clear hr h1
    go_enter Try.func172, Try.ntmps172
    go_wp2
    go_ret
    exact ⟨ret_int hr2.out.symm, rfl⟩
  · have q1 : (a == 1099511627776) = false := by simp [h1]
    by_cases h2 : b = 1099511627776
    · have hr2 := hide (show apartF a b = 1099511627776 by rw [hr.out, if_neg h1, if_pos h2])
      have q2 : (b == 1099511627776) = true := by simp [h2]
      clear hr h1 h2
      go_enter Try.func172, Try.ntmps172
      go_wp2
      go_ret
      exact ⟨ret_int hr2.out.symm, rfl⟩
    · have hr2 := hide (show apartF a b = max 0 (b - a) by rw [hr.out, if_neg h1, if_neg h2])
      have q2 : (b == 1099511627776) = false := by simp [h2]
      clear hr h1 h2
      go_enter Try.func172, Try.ntmps172
      go_wp2
      all_goals
        go_ret
        exact ⟨ret_int (by rw [hr2.out]; omega), rfl⟩
set_option maxRecDepth 100000 in
set_option maxHeartbeats 2000000 in
theorem bound_any (n v t k : Nat) (a1 a2 : Option Addr) (c1 c2 : Nat) (r1 r2 : List (List Int)) (w : World) (B : Nat) (hB : B ≤ w.heap.size) (h1 : Tab w B a1 n r1) (h2 : Tab w B a2 n r2) (f1 : Fit n r1) (f2 : Fit n r2) (k1 : r1.length = k) (k2 : r2.length = k) (hk : k ≤ 1000) (hv : v < n) (ht : t < n) (hn : n ≤ 1000) :
    Calls Try.prog 90 #[.agg #[.slice a1 k c1, .slice a2 k c2], .int .i64 (v : Int), .int .i64 (t : Int)] w fun e w' => e = .returned (.int .i64 (bndK r1 r2 v t k)) ∧ Below w.heap.size w w' := by
  replace h1 := hide h1
  replace h2 := hide h2
  replace k1 := hide k1
  replace k2 := hide k2
  replace f1 := hide f1
  replace f2 := hide f2
  go_enter Try.func90, Try.ntmps90
  go_wp2
  obtain ⟨w0, h0⟩ : ∃ w0, w0 = w.alloc (.cells #[.slice a1 k c1, .slice a2 k c2] 136) := ⟨_, rfl⟩
  have hB0 := hide (show Below w.heap.size w w0 by rw [h0]; exact (Below.refl _ _).alloc (Nat.le_refl _) _)
  have c0 : w0.cell? ⟨w.heap.size, 0, none⟩ = some (.slice a1 k c1) := by rw [h0]; simp [go_sem]
  have d0 : w0.cell? ⟨w.heap.size, 1, none⟩ = some (.slice a2 k c2) := by rw [h0]; simp [go_sem]
  simp only [← h0]
  replace h0 := hide h0
  go_loopw [7, 8, 12] (fun s7 _ i wr => ∃ (j m : Nat), j ≤ k ∧ i = .int .i64 j ∧ s7 = .int .i64 (bndK r1 r2 v t j) ∧ Hid (wr = w0.drewN m)) (fun _ _ i _ => k - (intOf i).toNat)
  case atStart => exact ⟨0, 0, Nat.zero_le _, rfl, rfl, hide rfl⟩
  case round =>
    obtain ⟨j, m, hj, rfl, rfl, hwr⟩ := hrel
    have g0 : wr.cell? ⟨w.heap.size, 0, none⟩ = some (.slice a1 k c1) := by rw [hwr.out]; exact cu_drewN c0
    have g1 : wr.cell? ⟨w.heap.size, 1, none⟩ = some (.slice a2 k c2) := by rw [hwr.out]; exact cu_drewN d0
    have gl : w.heap.size < wr.heap.size := by have := cell_lt g0; simpa using this
    have hbm := hide (show Below w.heap.size w wr by rw [hwr.out]; exact up_drewN hB0.out)
    clear c0 d0
    by_cases hlt : j < k
    · obtain ⟨b1, o1, rfl, hb1, b3, o3, c3, hb3, e1, e2⟩ := (h1.out.below hbm.out hB).at2 f1.out j (by rw [k1.out]; exact hlt) (by omega)
      obtain ⟨b4, o4, rfl, hb4, b5, o5, c5, hb5, e3, e4⟩ := (h2.out.below hbm.out hB).at2 f2.out j (by rw [k2.out]; exact hlt) (by omega)
      have e5 := e2 v hv
      have e6 := e2 t ht
      have e7 := e4 v hv
      have e8 := e4 t ht
      have l1 := cell_lt e1
      have l2 := cell_lt e3
      have l3 := cell_lt e5
      have l4 := cell_lt e7
      have x1 := at2_fit f1.out j v
      have x2 := at2_fit f1.out j t
      have x3 := at2_fit f2.out j t
      have x4 := at2_fit f2.out j v
      have hb := hide (show bndK r1 r2 v t (j + 1) = max (max (bndK r1 r2 v t j) (apartF (at2 r1 j v) (at2 r1 j t))) (apartF (at2 r2 j t) (at2 r2 j v)) from rfl)
      have y0 := bndK_range f1.out f2.out v t j
      have y1 := apartF_range x1 x2
      have y2 := apartF_range x3 x4
      have hA := hide (fun a b (ha : 0 ≤ a ∧ a ≤ 1099511627776) (hb : 0 ≤ b ∧ b ≤ 1099511627776) w => least_any a b ha hb w)
      generalize at2 r1 j v = z1 at *
      generalize at2 r1 j t = z2 at *
      generalize at2 r2 j t = z3 at *
      generalize at2 r2 j v = z4 at *
      generalize bndK r1 r2 v t j = z0 at *
      unfold FAR at x1 x2 x3 x4 y0 y1 y2
      have ij : (0 : Int) ≤ (j : Int) ∧ (j : Int) < (k : Int) := by omega
      have iv : (0 : Int) ≤ (v : Int) ∧ (v : Int) < (n : Int) := by omega
      have it : (0 : Int) ≤ (t : Int) ∧ (t : Int) < (n : Int) := by omega
      clear e2 e4
      go_wp2
      go_quiet (first | (go_at_call 172; exact Calls.quiet_of_same (hA.out _ _ (by assumption) (by assumption) _)))
      go_wp2
      all_goals
        go_roundw
        case rel => exact ⟨j + 1, m + nq, by omega, by go_num, by rw [hb.out]; congr 1; omega, hide (by rw [hwr.out]; simp)⟩
        case measure => simp [intOf]; omega
    · obtain rfl : k = j := by omega
      go_wp2
      go_ret
      exact ⟨rfl, hbm.out⟩
