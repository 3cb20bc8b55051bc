/-
  What Floor and Ceil of package ratio return. Conditions: the numbers fit 64 bits (Ceil).
-/
import Derived.Test.YtiibhdibeljcjaaRatio
import Derived.Test.YtiibhdibeljcjaaOpen
import Derived.BigQuiet
import Derived.Deep.QuietTactic
import Derived.WalkSpells
import Derived.WalkLawsBesides
namespace Go.Proofs.Ytiibhdibeljcjaa
open Go.RowKit
set_option linter.unusedSimpArgs false

theorem chk_zero {r : P2} (h : chk r = 0) : 1 ≤ r.b ∧ r.b ≤ 1000000 ∧ -1000000 ≤ r.a ∧ r.a ≤ 1000000 ∧ (mkVal r.a r.b) = r ∧ mkErr r.a r.b = 0 := by
  simp only [chk] at h
  split at h
  · omega
  · rename_i g
    simp only [not_or, Decidable.not_not, ne_eq] at g
    have g1 : ¬ (r.b < 1 ∨ ratWithin r.a = false ∨ ratWithin r.b = false) := by
      have := g.1; unfold mkErr at this; intro hh; rw [if_pos hh] at this; omega
    simp only [not_or, Bool.not_eq_false] at g1
    have b2 := (ratWithin_iff _).1 g1.2.1
    have b3 := (ratWithin_iff _).1 g1.2.2
    refine ⟨by omega, by omega, by omega, by omega, ?_, g.1⟩
    cases hv : mkVal r.a r.b; cases r; simp_all
theorem chk_vals (r : P2) : chk r = 0 ∨ chk r = 3 := by simp only [chk]; split <;> simp

theorem floor_lo (a b : Int) (hb : 1 ≤ b) (h : a.tmod b < 0) : a.tdiv b - 1 = a / b := by
  have h1 := Int.tdiv_eq_ediv (a := a) (b := b)
  have h2 := Int.tmod_eq_emod (a := a) (b := b)
  have h3 := Int.emod_nonneg a (show b ≠ 0 by omega)
  have hs : b.sign = 1 := Int.sign_eq_one_of_pos (by omega)
  split at h1 <;> split at h2 <;> omega
theorem floor_hi (a b : Int) (hb : 1 ≤ b) (h : ¬ a.tmod b < 0) : a.tdiv b = a / b := by
  have h1 := Int.tdiv_eq_ediv (a := a) (b := b)
  have h2 := Int.tmod_eq_emod (a := a) (b := b)
  have h3 := Int.emod_lt_of_pos a (show 0 < b by omega)
  have hs : b.sign = 1 := Int.sign_eq_one_of_pos (by omega)
  split at h1 <;> split at h2 <;> omega

def floorV (r : P2) : Int := if chk r ≠ 0 then 0 else r.a / r.b
theorem tdiv_bd (a b : Int) (ha : -1000000 ≤ a ∧ a ≤ 1000000) : -1000000 ≤ a.tdiv b ∧ a.tdiv b ≤ 1000000 := by
  have := Int.natAbs_tdiv_le_natAbs a b
  omega
theorem floor_any (r : P2) (w : World) :
    Calls Try.prog 19 #[.agg #[.int .i64 r.a, .int .i64 r.b]] w fun e w' => e = .returned (.tuple #[.int .i64 (floorV r), .int .i64 (chk r)]) ∧ Below w.heap.size w w' := by
  by_cases h0 : chk r = 0
  · obtain ⟨r1, r2, r3, r4, _, _⟩ := chk_zero h0
    have hv := hide (show floorV r = r.a / r.b by simp [floorV, h0])
    have hq := hide h0
    have hd := tdiv_bd r.a r.b ⟨r3, r4⟩
    have q0 : (chk r != 0) = false := by simp [h0]
    have k1 := hide (floor_lo r.a r.b r1)
    have k2 := hide (floor_hi r.a r.b r1)
    clear h0
    go_enter Try.func19, Try.ntmps19
    go_wp2_with fail
    refine (chk_any r _).mono ?_
    rintro e w1 ⟨rfl, hb1⟩
    obtain ⟨hc1, hf1⟩ := bcell hb1; have hz1 : w.heap.size < w1.heap.size := (by have := hb1.size; (try simp at this); omega)
    go_wp2
    · go_ret2
      refine ⟨?_, (by repeat (first | exact Below.refl _ _ | assumption | (refine Below.trans ?_ (Below.mono (by assumption) ?_); rotate_left; (first | omega | (simp <;> omega) | simp)) | refine below_drewN ?_ _ | refine Below.drew ?_ | refine Below.alloc ?_ (by first | omega | (simp <;> omega) | simp) _ | refine Below.setCell ?_ (by first | omega | (simp <;> omega) | simp) _))⟩
      rw [hv.out, hq.out, ← k1.out (by assumption)]
      rfl
    · go_ret2
      refine ⟨?_, (by repeat (first | exact Below.refl _ _ | assumption | (refine Below.trans ?_ (Below.mono (by assumption) ?_); rotate_left; (first | omega | (simp <;> omega) | simp)) | refine below_drewN ?_ _ | refine Below.drew ?_ | refine Below.alloc ?_ (by first | omega | (simp <;> omega) | simp) _ | refine Below.setCell ?_ (by first | omega | (simp <;> omega) | simp) _))⟩
      rw [hv.out, hq.out, ← k2.out (by omega)]
      rfl
  · have q0 : (chk r != 0) = true := by simp [h0]
    have hv := hide (show floorV r = 0 by simp [floorV, h0])
    clear h0
    go_enter Try.func19, Try.ntmps19
    go_wp2_with fail
    refine (chk_any r _).mono ?_
    rintro e w1 ⟨rfl, hb1⟩
    go_wp2
    go_ret2
    exact ⟨by rw [hv.out]; rfl, (by repeat (first | exact Below.refl _ _ | assumption | (refine Below.trans ?_ (Below.mono (by assumption) ?_); rotate_left; (first | omega | (simp <;> omega) | simp)) | refine below_drewN ?_ _ | refine Below.drew ?_ | refine Below.alloc ?_ (by first | omega | (simp <;> omega) | simp) _ | refine Below.setCell ?_ (by first | omega | (simp <;> omega) | simp) _))⟩

theorem gcdI_neg (a b : Int) : gcdI (-a) b = gcdI a b := by unfold gcdI; simp
theorem chk_neg (r : P2) : chk ⟨-r.a, r.b⟩ = chk r := by
  have e1 : ratWithin (-r.a) = ratWithin r.a := by unfold ratWithin; rw [decide_eq_decide]; omega
  simp only [chk, mkErr, mkVal, e1]
  split
  · simp
  · simp only [lst, gcdI_neg, Int.neg_tdiv]
    congr 1
    simp [Int.neg_inj]
def ceilV (r : P2) : Int := if chk r ≠ 0 then 0 else -((-r.a) / r.b)
theorem ediv_bd (a b : Int) (ha : -1000000 ≤ a ∧ a ≤ 1000000) (hb : 1 ≤ b) : -1000000 ≤ a / b ∧ a / b ≤ 1000000 := by
  constructor
  · exact (Int.le_ediv_iff_mul_le (by omega)).2 (by omega)
  · have : a / b < 1000001 := (Int.ediv_lt_iff_lt_mul (by omega)).2 (by omega)
    omega
theorem floorV_bd (r : P2) : -1000000 ≤ floorV r ∧ floorV r ≤ 1000000 := by
  unfold floorV
  split
  · omega
  · obtain ⟨r1, r2, r3, r4, _, _⟩ := chk_zero (r := r) (by omega)
    exact ediv_bd _ _ ⟨r3, r4⟩ r1
theorem chk_out {r : P2} (h : ¬ (-1000000 ≤ r.a ∧ r.a ≤ 1000000)) : chk r = 3 := by
  have : mkErr r.a r.b = 1 := by simp only [mkErr]; rw [if_pos (.inr (.inl ((ratWithin_not _).2 h)))]
  simp [chk, this]
theorem wrap_out {a : Int} (hr : Bd a) (h : ¬ (-1000000 ≤ a ∧ a ≤ 1000000)) : ¬ (-1000000 ≤ wrap64 (-a) ∧ wrap64 (-a) ≤ 1000000) := by
  unfold Bd at hr; unfold wrap64; omega
theorem ceil_any (r : P2) (hr : Bd r.a) (w : World) :
    Calls Try.prog 20 #[.agg #[.int .i64 r.a, .int .i64 r.b]] w fun e w' => e = .returned (.tuple #[.int .i64 (ceilV r), .int .i64 (chk r)]) ∧ Below w.heap.size w w' := by
  by_cases hm : -1000000 ≤ r.a ∧ r.a ≤ 1000000
  · have hc := hide (chk_neg r)
    have hb0 := floorV_bd ⟨-r.a, r.b⟩
    have hv : ceilV r = -floorV ⟨-r.a, r.b⟩ := by
      unfold ceilV floorV
      rw [chk_neg]
      split <;> simp
    have hv := hide hv
    clear hr
    go_enter Try.func20, Try.ntmps20
    go_wp2_with fail
    refine (floor_any ⟨-r.a, r.b⟩ _).mono ?_
    rintro e w1 ⟨rfl, hb1⟩
    go_wp2
    go_ret2
    exact ⟨by rw [hv.out, ← hc.out]; rfl, (by repeat (first | exact Below.refl _ _ | assumption | (refine Below.trans ?_ (Below.mono (by assumption) ?_); rotate_left; (first | omega | (simp <;> omega) | simp)) | refine below_drewN ?_ _ | refine Below.drew ?_ | refine Below.alloc ?_ (by first | omega | (simp <;> omega) | simp) _ | refine Below.setCell ?_ (by first | omega | (simp <;> omega) | simp) _))⟩
  · have hc : chk ⟨wrap64 (-r.a), r.b⟩ = 3 := chk_out (wrap_out hr hm)
    have hf : floorV ⟨wrap64 (-r.a), r.b⟩ = 0 := by simp [floorV, hc]
    have hc1 : chk r = 3 := chk_out hm
    have hv : ceilV r = 0 := by simp [ceilV, hc1]
    have hF := fun w => floor_any ⟨wrap64 (-r.a), r.b⟩ w
    rw [hc, hf] at hF
    rw [hv, hc1]
    have hF := hide hF
    clear hc hf hv hr hc1 hm
    go_enter Try.func20, Try.ntmps20
    go_wp2_with fail
    refine (hF.out _).mono ?_
    rintro e w1 ⟨rfl, hb1⟩
    go_wp2
    go_ret2
    exact ⟨rfl, (by repeat (first | exact Below.refl _ _ | assumption | (refine Below.trans ?_ (Below.mono (by assumption) ?_); rotate_left; (first | omega | (simp <;> omega) | simp)) | refine below_drewN ?_ _ | refine Below.drew ?_ | refine Below.alloc ?_ (by first | omega | (simp <;> omega) | simp) _ | refine Below.setCell ?_ (by first | omega | (simp <;> omega) | simp) _))⟩
end Go.Proofs.Ytiibhdibeljcjaa
