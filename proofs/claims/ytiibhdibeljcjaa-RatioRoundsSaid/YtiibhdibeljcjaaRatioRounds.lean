/-
  Proved here: felllaw.RatioRounds returns true whatever it is given. No conditions.
-/
import Derived.Test.YtiibhdibeljcjaaRatioC
import Derived.Test.YtiibhdibeljcjaaRefRatio
import Derived.Test.YtiibhdibeljcjaaRatioEq
import Derived.BigQuiet
import Derived.WalkSpells
import Derived.WalkLawsBesides
namespace Go.Proofs.Ytiibhdibeljcjaa
open Go.ChangeShapes Go.WideShapes Go.ChangeAt Go.RowKit
set_option linter.unusedVariables false
set_option linter.unusedSimpArgs false

theorem floor_facts (a b : Int) (hb : 1 ≤ b) : a / b * b ≤ a ∧ a < (a / b + 1) * b := by
  have h1 := Int.mul_ediv_add_emod a b
  have h2 := Int.emod_nonneg a (show b ≠ 0 by omega)
  have h3 := Int.emod_lt_of_pos a (show 0 < b by omega)
  rw [Int.add_mul, Int.mul_comm (a / b) b]
  omega

theorem mul_bd2 (a b : Int) (ha : -1000001 ≤ a ∧ a ≤ 1000001) (hb : -1000001 ≤ b ∧ b ≤ 1000001) : -1000002000001 ≤ a * b ∧ a * b ≤ 1000002000001 := by
  have h : (a * b).natAbs ≤ 1000001 * 1000001 := by
    rw [Int.natAbs_mul]; exact Nat.mul_le_mul (by omega) (by omega)
  omega

theorem walk_RatioRounds (x0 : P2) (w : World) (b0 : Bd x0.a) (c0 : Bd x0.b) :
    Calls Try.prog 5 #[.agg #[.int .i64 x0.a, .int .i64 x0.b]] w fun e w' => e = .returned (.bool true) ∧ Below w.heap.size w w' := by
  by_cases h0 : chk x0 = 0
  · obtain ⟨r1, r2, r3, r4, _, _⟩ := chk_zero h0
    have hf : floorV x0 = x0.a / x0.b := by simp [floorV, h0]
    have hc : ceilV x0 = -(-x0.a / x0.b) := by simp [ceilV, h0]
    have f1 := floor_facts x0.a x0.b r1
    have f2 := floor_facts (-x0.a) x0.b r1
    have g1 := ediv_bd x0.a x0.b ⟨r3, r4⟩ r1
    have g2 := ediv_bd (-x0.a) x0.b (by omega) r1
    rw [← hf] at f1 g1
    have e2 : -x0.a / x0.b = - ceilV x0 := by omega
    rw [e2] at f2 g2
    have hq := hide h0
    have hr := hide (chk_rchk x0)
    clear hf hc e2
    have q0 : (chk x0 != 0) = false := by simp [h0]
    have q1 : (chk x0 == 0) = true := by simp [h0]
    have m1 : floorV x0 * x0.b ≤ x0.a := f1.1
    have m2 : x0.a < (floorV x0 + 1) * x0.b := f1.2
    have m3 : (ceilV x0 - 1) * x0.b < x0.a := by have := f2.2; rw [show (-ceilV x0 + 1) = -(ceilV x0 - 1) by omega, Int.neg_mul] at this; omega
    have m4 : x0.a ≤ ceilV x0 * x0.b := by have := f2.1; rw [Int.neg_mul] at this; omega
    have n1 := mul_bd2 (floorV x0) x0.b (by omega) (by omega)
    have n2 := mul_bd2 (floorV x0 + 1) x0.b (by omega) (by omega)
    have n3 := mul_bd2 (ceilV x0 - 1) x0.b (by omega) (by omega)
    have n4 := mul_bd2 (ceilV x0) x0.b (by omega) (by omega)
    clear h0 f1 f2
    go_enter Try.func5, Try.ntmps5
    go_wp2_with fail
    refine (floor_any x0 _).mono ?_
    rintro e w1 ⟨rfl, hb1⟩
    obtain ⟨hc1, hf1⟩ := bcell hb1; have hz1 : w.heap.size < w1.heap.size := (by have := hb1.size; (try simp at this); omega)
    go_wp2_with fail
    refine (ceil_any x0 b0 _).mono ?_
    rintro e w2 ⟨rfl, hb2⟩
    obtain ⟨hc2, hf2⟩ := bcell hb2; have hz2 : w.heap.size < w2.heap.size := (by have := hb2.size; (try simp at this); omega)
    go_wp2_with fail
    refine (rchk_any x0 _).mono ?_
    rw [← hr.out]
    rintro e w3 ⟨rfl, hb3⟩
    obtain ⟨hc3, hf3⟩ := bcell hb3; have hz3 : w.heap.size < w3.heap.size := (by have := hb3.size; (try simp at this); omega)
    go_wp2_with fail
    all_goals
      go_ret
      exact ⟨rfl, (by repeat (first | exact Below.refl _ _ | assumption | (refine Below.trans ?_ (Below.mono (by assumption) ?_); rotate_left; (first | omega | (simp <;> omega) | simp)) | refine below_drewN ?_ _ | refine Below.drew ?_ | refine Below.alloc ?_ (by first | omega | (simp <;> omega) | simp) _ | refine Below.setCell ?_ (by first | omega | (simp <;> omega) | simp) _))⟩
  · have h3 : chk x0 = 3 := by have := chk_vals x0; omega
    have hf := hide (show floorV x0 = 0 by simp [floorV, h3])
    have hc := hide (show ceilV x0 = 0 by simp [ceilV, h3])
    have hr : rchk x0 = 3 := by rw [← chk_rchk]; exact h3
    have hF := fun w => floor_any x0 w
    have hC := fun w => ceil_any x0 b0 w
    have hR := fun w => rchk_any x0 w
    rw [hf.out, h3] at hF
    rw [hc.out, h3] at hC
    rw [hr] at hR
    have hF := hide hF
    have hC := hide hC
    have hR := hide hR
    clear h0 h3 hr
    go_enter Try.func5, Try.ntmps5
    go_wp2_with fail
    refine (hF.out _).mono ?_
    rintro e w1 ⟨rfl, hb1⟩
    obtain ⟨hc1, hf1⟩ := bcell hb1; have hz1 : w.heap.size < w1.heap.size := (by have := hb1.size; (try simp at this); omega)
    go_wp2_with fail
    refine (hC.out _).mono ?_
    rintro e w2 ⟨rfl, hb2⟩
    obtain ⟨hc2, hf2⟩ := bcell hb2; have hz2 : w.heap.size < w2.heap.size := (by have := hb2.size; (try simp at this); omega)
    go_wp2_with fail
    refine (hR.out _).mono ?_
    rintro e w3 ⟨rfl, hb3⟩
    go_wp2_with fail
    go_ret
    exact ⟨rfl, (by repeat (first | exact Below.refl _ _ | assumption | (refine Below.trans ?_ (Below.mono (by assumption) ?_); rotate_left; (first | omega | (simp <;> omega) | simp)) | refine below_drewN ?_ _ | refine Below.drew ?_ | refine Below.alloc ?_ (by first | omega | (simp <;> omega) | simp) _ | refine Below.setCell ?_ (by first | omega | (simp <;> omega) | simp) _))⟩

set_option maxRecDepth 100000 in
theorem lifted_RatioRounds (os : Os) (started : os.Started) (H : Type) (enc : TypeId × Value → H) :
    ReturnsInHanded {} Try.checked os 5 .any (Rows.ratioRoundsSpec.pre6 enc Try.prog Try.f5 Rows.ratioRoundsRow.domain false) (Rows.ratioRoundsSpec.post enc Try.prog Try.f5 false true false false) := by
  refine returnsInHanded_of_change (C := Try.checked) own started (by kernel_rfl) Try.func5
    (ChangeSpec.witness6 (enc := enc) (C := Try.checked) false ⟨#[], #[.agg #[.int .i64 0, .int .i64 0]], []⟩ 8 (by kernel_rfl) (by kernel_rfl) (by kernel_rfl) (by kernel_rfl)) ?_
  intro W base args ds gs before hval0 hW hcnd _
  have hval : ∀ (j : Nat) t v, Try.f5.params[j]? = some t → args[j]? = some v → Value.okWide Try.prog W .any base t v := hval0
  have hW' := hW
  obtain ⟨p, q, hA0, hV, rfl, hfz, hnd⟩ := hW
  have hA : DataW.TrodAll enc Try.prog W 0 (fun _ => true) true Try.f5.params.toList args.toList ds p := hA0
  rw [Try.params5] at hA hval
  obtain ⟨v0, vs0, d0, ds0, p0, q0, hargs, rfl, rfl, h0, r0⟩ := trodAll_cons hA
  obtain ⟨rfl, rfl, rfl⟩ := trodAll_nil r0
  obtain rfl : args = #[v0] := by cases args; simp_all
  obtain ⟨rfl, rfl⟩ := trodVars_none hV
  have k0 := h0
  have lt0 : ∀ x ∈ p0, x.block < W.heap.size := by obtain ⟨m, hm⟩ := k0; exact DataW.trod_lt m _ _ _ hm
  obtain ⟨x0, rfl, b0, c0⟩ := read_p2 Try.underlying27 (by kernel_rfl) (by kernel_rfl) Try.underlying3 Try.underlying3 (hval 0 27 v0 rfl rfl) h0
  clear hA0 hval0
  refine (walk_RatioRounds x0 W b0 c0).mono fun e W' ⟨he, bel⟩ => ?_
  subst he
  exact ⟨_, rfl, _, _, _, [], _, [], hW', trodAll_mk1 (shut_bool Try.underlying4 _), (trodAll_cons_mk (Below.trod laidOut (by kernel_rfl) (of_decide_eq_true (by kernel_rfl)) k0 bel lt0) trodAll_mk0), rfl, bel.frame _, fun h => by cases h⟩

theorem over_RatioRounds : Rows.ratioRoundsRow.holds Try.pinned (OpenSpec.ofChange Rows.ratioRoundsSpec) :=
  OpenClaim.holds_of_wide 5 Try.f5 rfl rfl rfl rfl rfl rfl rfl ⟨rfl, rfl, rfl, rfl, rfl⟩ rfl rfl rfl rfl rfl (by kernel_rfl) Try.func5 (by kernel_rfl)
    (of_decide_eq_true (by kernel_rfl)) (by unfold Func.isWrapper; first | (rw [if_pos (by decide +kernel)]; kernel_rfl) | (rw [if_neg (by decide +kernel)]; exact ⟨rfl, rfl⟩))
    (fun os started H enc _ => lifted_RatioRounds os started H enc)

/-- The given statement. -/
theorem proved_RatioRounds : Rows.RatioRoundsSaid := over_RatioRounds
#print axioms proved_RatioRounds

end Go.Proofs.Ytiibhdibeljcjaa
