/-
  Proved here: felllaw.RatioCounts returns true whatever it is given. No conditions.
-/
import Derived.Test.YtiibhdibeljcjaaOpen
import Derived.Test.YtiibhdibeljcjaaRatioB
import Derived.Test.YtiibhdibeljcjaaRatioEq
import Derived.BigQuiet
import Derived.Deep.RegionHeld3
import Derived.WalkSpells
import Derived.WalkLawsBesides
namespace Go.Proofs.Ytiibhdibeljcjaa
open Go.ChangeShapes Go.WideShapes Go.ChangeAt Go.RowKit
set_option linter.unusedVariables false
set_option linter.unusedSimpArgs false

theorem lst_den (n d : Int) (hd : 1 ≤ d) : 1 ≤ (lst n d).b ∧ gcdI (lst n d).a (lst n d).b = 1 := by
  have hg := gcdI_pos n d hd
  have hdb : gcdI n d ∣ d := by unfold gcdI; exact Int.gcd_dvd_right ..
  have hda : gcdI n d ∣ n := by unfold gcdI; exact Int.gcd_dvd_left ..
  have e1 : n.tdiv (gcdI n d) * gcdI n d = n := Int.tdiv_mul_cancel hda
  have e2 : d / gcdI n d * gcdI n d = d := Int.ediv_mul_cancel hdb
  have hb : 1 ≤ d / gcdI n d := by
    rcases Int.lt_or_le (d / gcdI n d) 1 with h | h
    · exfalso
      have : d / gcdI n d * gcdI n d ≤ 0 := Int.mul_nonpos_of_nonpos_of_nonneg (by omega) (by omega)
      omega
    · exact h
  refine ⟨hb, ?_⟩
  show gcdI (n.tdiv (gcdI n d)) (d / gcdI n d) = 1
  have h3 : gcdI (n.tdiv (gcdI n d) * gcdI n d) (d / gcdI n d * gcdI n d) = gcdI (n.tdiv (gcdI n d)) (d / gcdI n d) * gcdI n d := by
    unfold gcdI
    rw [Int.gcd_mul_right]
    simp
  rw [e1, e2] at h3
  have h4 : gcdI (n.tdiv (gcdI n d)) (d / gcdI n d) * gcdI n d = 1 * gcdI n d := by omega
  exact Int.eq_of_mul_eq_mul_right (by omega) h4
theorem rchk_lst (n d : Int) (hd : 1 ≤ d) : (rchk (lst n d) = 0 ∧ fitErr n d = 0) ∨ (rchk (lst n d) = 3 ∧ fitErr n d = 2) := by
  obtain ⟨h1, h2⟩ := lst_den n d hd
  by_cases h : ratWithin (lst n d).a = false ∨ ratWithin (lst n d).b = false
  · right
    constructor
    · simp only [rchk]; rw [if_pos (by rcases h with h | h <;> simp [h])]
    · simp only [fitErr]; rw [if_pos h]
  · left
    have g := h
    simp only [not_or, Bool.not_eq_false] at g
    constructor
    · simp only [rchk]; rw [if_neg (by simp [h2, g.1, g.2]; omega)]
    · simp only [fitErr]; rw [if_neg h]

def toldOk (got : P2) (e : Int) (want : P2) : Prop := (rchk want = 3 ∧ e = 2 ∧ got.a = 0 ∧ got.b = 0) ∨ (rchk want = 0 ∧ e = 0 ∧ got.a = want.a ∧ got.b = want.b)
theorem told_op (n d : Int) (hd : 1 ≤ d) (r s : P2) (h0 : bothErr r s = 0) : toldOk (opVal n d r s) (opErr n d r s) (lst n d) := by
  have e1 : opVal n d r s = fitVal n d := by simp [opVal, h0]
  have e2 : opErr n d r s = fitErr n d := by simp [opErr, h0]
  rw [e1, e2]
  rcases rchk_lst n d hd with ⟨h1, h2⟩ | ⟨h1, h2⟩
  · exact .inr ⟨h1, h2, by simp [fitVal, h2]⟩
  · exact .inl ⟨h1, h2, by simp [fitVal, h2]⟩
theorem told_any (got : P2) (e : Int) (want : P2) (h : toldOk got e want) (w : World) :
    Calls Try.prog 40 #[.agg #[.int .i64 got.a, .int .i64 got.b], .int .i64 e, .agg #[.int .i64 want.a, .int .i64 want.b]] w fun e w' => e = .returned (.bool true) ∧ Below w.heap.size w w' := by
  have hR := fun w => rchk_any want w
  obtain ⟨ga, gb⟩ := got
  rcases h with ⟨h1, rfl, h3, h4⟩ | ⟨h1, rfl, h3, h4⟩
  · simp only at h3 h4
    subst h3 h4
    rw [h1] at hR
    have hR := hide hR
    clear h1
    go_enter Try.func40, Try.ntmps40
    go_wp2_with fail
    refine (hR.out _).mono ?_
    rintro e w1 ⟨rfl, hb1⟩
    obtain ⟨hc1, hf1⟩ := bcell hb1; have hz1 : w.heap.size + 1 < w1.heap.size := (by have := hb1.size; (try simp at this); omega)
    have hz2 : w.heap.size < w1.heap.size := by omega
    go_wp2_with fail
    go_ret
    exact ⟨rfl, (by repeat (first | exact Below.refl _ _ | assumption | (refine Below.trans ?_ (Below.mono (by assumption) ?_); rotate_left; (first | omega | (simp <;> omega) | simp)) | refine below_drewN ?_ _ | refine Below.drew ?_ | refine Below.alloc ?_ (by first | omega | (simp <;> omega) | simp) _ | refine Below.setCell ?_ (by first | omega | (simp <;> omega) | simp) _))⟩
  · simp only at h3 h4
    subst h3 h4
    rw [h1] at hR
    have hR := hide hR
    clear h1
    go_enter Try.func40, Try.ntmps40
    go_wp2_with fail
    refine (hR.out _).mono ?_
    rintro e w1 ⟨rfl, hb1⟩
    obtain ⟨hc1, hf1⟩ := bcell hb1; have hz1 : w.heap.size + 1 < w1.heap.size := (by have := hb1.size; (try simp at this); omega)
    have hz2 : w.heap.size < w1.heap.size := by omega
    go_wp2_with fail
    go_ret
    exact ⟨rfl, (by repeat (first | exact Below.refl _ _ | assumption | (refine Below.trans ?_ (Below.mono (by assumption) ?_); rotate_left; (first | omega | (simp <;> omega) | simp)) | refine below_drewN ?_ _ | refine Below.drew ?_ | refine Below.alloc ?_ (by first | omega | (simp <;> omega) | simp) _ | refine Below.setCell ?_ (by first | omega | (simp <;> omega) | simp) _))⟩

set_option maxHeartbeats 1000000 in
theorem counts_lt (x0 x1 : P2) (h0 : bothErr x0 x1 = 0) (hc : cmpVal x0 x1 = (-1)) (d1 : x0.a * x1.b - x1.a * x0.b < 0) (w : World) :
    Calls Try.prog 10 #[.agg #[.int .i64 x0.a, .int .i64 x0.b], .agg #[.int .i64 x1.a, .int .i64 x1.b]] w fun e w' => e = .returned (.bool true) ∧ Below w.heap.size w w' := by
  have hC := fun w => cmp_any x0 x1 w
  have hA := fun w => add_any x0 x1 w
  have hM := fun w => mul_any x0 x1 w
  have hR := fun w => rchk_any x0 w
  have hS := fun w => rchk_any x1 w
  obtain ⟨hr, hs⟩ := both_zero h0
  obtain ⟨r1, r2, r3, r4, _, _⟩ := chk_zero hr
  obtain ⟨s1, s2, s3, s4, _, _⟩ := chk_zero hs
  have m1 := mul_bd x0.a x1.b (by omega) (by omega)
  have m2 := mul_bd x1.a x0.b (by omega) (by omega)
  have m3 := mul_bd x0.b x1.b (by omega) (by omega)
  have m5 := mul_bd x0.a x1.a (by omega) (by omega)
  have m4 : 1 ≤ x0.b * x1.b := Int.mul_pos (by omega) (by omega)
  have tA := hide (told_op (x0.a * x1.b + x1.a * x0.b) (x0.b * x1.b) m4 x0 x1 h0)
  have tM := hide (told_op (x0.a * x1.a) (x0.b * x1.b) m4 x0 x1 h0)
  rw [hc, h0] at hC
  rw [← chk_rchk, hr] at hR
  rw [← chk_rchk, hs] at hS
  obtain ⟨oA, pA⟩ : ∃ o, o = opVal (x0.a * x1.b + x1.a * x0.b) (x0.b * x1.b) x0 x1 := ⟨_, rfl⟩
  obtain ⟨eA, qA⟩ : ∃ o, o = opErr (x0.a * x1.b + x1.a * x0.b) (x0.b * x1.b) x0 x1 := ⟨_, rfl⟩
  obtain ⟨oM, pM⟩ : ∃ o, o = opVal (x0.a * x1.a) (x0.b * x1.b) x0 x1 := ⟨_, rfl⟩
  obtain ⟨eM, qM⟩ : ∃ o, o = opErr (x0.a * x1.a) (x0.b * x1.b) x0 x1 := ⟨_, rfl⟩
  rw [← pA, ← qA] at hA tA
  rw [← pM, ← qM] at hM tM
  have hC := hide hC
  have hA := hide hA
  have hM := hide hM
  have hR := hide hR
  have hS := hide hS
  clear h0 hr hs hc pA qA pM qM
  go_enter Try.func10, Try.ntmps10
  go_wp2_with fail
  refine (hC.out _).mono ?_
  rintro e w1 ⟨rfl, hb1⟩
  obtain ⟨hc1, hf1⟩ := bcell hb1; have hz1 : w.heap.size + 1 < w1.heap.size := (by have := hb1.size; (try simp at this); omega)
  have hy1 : w.heap.size < w1.heap.size := by omega
  go_wp2_with fail
  refine (hA.out _).mono ?_
  rintro e w2 ⟨rfl, hb2⟩
  obtain ⟨hc2, hf2⟩ := bcell hb2; have hz2 : w.heap.size + 1 < w2.heap.size := (by have := hb2.size; (try simp at this); omega)
  have hy2 : w.heap.size < w2.heap.size := by omega
  go_wp2_with fail
  refine (hM.out _).mono ?_
  rintro e w3 ⟨rfl, hb3⟩
  obtain ⟨hc3, hf3⟩ := bcell hb3; have hz3 : w2.heap.size < w3.heap.size := (by have := hb3.size; (try simp at this); omega)
  have hx3 : w.heap.size + 1 < w3.heap.size := by omega
  have hy3 : w.heap.size < w3.heap.size := by omega
  go_wp2_with fail
  refine (hR.out _).mono ?_
  rintro e w4 ⟨rfl, hb4⟩
  obtain ⟨hc4, hf4⟩ := bcell hb4; have hz4 : w3.heap.size < w4.heap.size := (by have := hb4.size; (try simp at this); omega)
  have hx4 : w2.heap.size < w4.heap.size := by omega
  have hx4' : w2.heap.size < w3.heap.size := by omega
  go_wp2_with fail
  refine (hS.out _).mono ?_
  rintro e w5 ⟨rfl, hb5⟩
  obtain ⟨hc5, hf5⟩ := bcell hb5; have hz5 : w3.heap.size < w5.heap.size := (by have := hb5.size; (try simp at this); omega)
  have hx5 : w2.heap.size < w5.heap.size := by omega
  have hv5 : w.heap.size < w5.heap.size := by omega
  have hu5 : w.heap.size + 1 < w5.heap.size := by omega
  have hv4 : w.heap.size < w4.heap.size := by omega
  have hu4 : w.heap.size + 1 < w4.heap.size := by omega
  go_wp2_with fail
  have key : Hid (∀ w', Below w5.heap.size w5 w' → (Below w5.heap.size w5 w' ∧ w'.cell? ⟨w.heap.size, 0, none⟩ = some (.int .i64 x0.a) ∧ w'.cell? ⟨w.heap.size, 1, none⟩ = some (.int .i64 x0.b) ∧ w'.cell? ⟨w.heap.size + 1, 0, none⟩ = some (.int .i64 x1.a) ∧ w'.cell? ⟨w.heap.size + 1, 1, none⟩ = some (.int .i64 x1.b) ∧ w'.cell? ⟨w2.heap.size, 0, none⟩ = some (.int .i64 oA.a) ∧ w'.cell? ⟨w2.heap.size, 1, none⟩ = some (.int .i64 oA.b) ∧ w'.cell? ⟨w3.heap.size, 0, none⟩ = some (.int .i64 oM.a) ∧ w'.cell? ⟨w3.heap.size, 1, none⟩ = some (.int .i64 oM.b))) := by
    intro w' hb
    refine ⟨hb, ?_, ?_, ?_, ?_, ?_, ?_, ?_, ?_⟩
    all_goals rw [hb.cell (by first | assumption | (simp <;> omega))]
    all_goals simp [go_sem, hc5, hc4, hc3, hc2, hc1, hz1, hz2, hz3, hz4, hz5, hx3, hx4, hx4', hx5, hy1, hy2, hy3, hv5, hu5, hv4, hu4]
  have hB : Below w.heap.size w w5 := (by repeat (first | exact Below.refl _ _ | assumption | (refine Below.trans ?_ (Below.mono (by assumption) ?_); rotate_left; (first | omega | (simp <;> omega) | simp)) | refine below_drewN ?_ _ | refine Below.drew ?_ | refine Below.alloc ?_ (by first | omega | (simp <;> omega) | simp) _ | refine Below.setCell ?_ (by first | omega | (simp <;> omega) | simp) _))
  clear hc1 hc2 hc3 hc4 hc5 hf1 hf2 hf3 hf4 hf5 hb1 hb2 hb3 hb4 hb5 hz1 hz2 hz3 hz4 hz5 hx3 hx4 hx4' hx5 hy1 hy2 hy3 hv5 hu5 hv4 hu4
  have L1 := hide (fun w => rleast_any (x0.a * x1.b + x1.a * x0.b) (x0.b * x1.b) (by omega) (by omega) w)
  have L2 := hide (fun w => rleast_any (x0.a * x1.a) (x0.b * x1.b) (by omega) (by omega) w)
  have W1 : IntKind.i64.wrap (x0.a * x1.b) = x0.a * x1.b := IntWalk.i64_in _ (by omega)
  have W2 : IntKind.i64.wrap (x1.a * x0.b) = x1.a * x0.b := IntWalk.i64_in _ (by omega)
  have W3 : IntKind.i64.wrap (x0.a * x1.b + x1.a * x0.b) = x0.a * x1.b + x1.a * x0.b := IntWalk.i64_in _ (by omega)
  have W4 : IntKind.i64.wrap (x0.b * x1.b) = x0.b * x1.b := IntWalk.i64_in _ (by omega)
  have W5 : IntKind.i64.wrap (x0.a * x1.a) = x0.a * x1.a := IntWalk.i64_in _ (by omega)
  clear m1 m2 m3 m4 m5 d1
  go_region_held3 (fun w' => Below w5.heap.size w5 w' ∧ w'.cell? ⟨w.heap.size, 0, none⟩ = some (.int .i64 x0.a) ∧ w'.cell? ⟨w.heap.size, 1, none⟩ = some (.int .i64 x0.b) ∧ w'.cell? ⟨w.heap.size + 1, 0, none⟩ = some (.int .i64 x1.a) ∧ w'.cell? ⟨w.heap.size + 1, 1, none⟩ = some (.int .i64 x1.b) ∧ w'.cell? ⟨w2.heap.size, 0, none⟩ = some (.int .i64 oA.a) ∧ w'.cell? ⟨w2.heap.size, 1, none⟩ = some (.int .i64 oA.b) ∧ w'.cell? ⟨w3.heap.size, 0, none⟩ = some (.int .i64 oM.a) ∧ w'.cell? ⟨w3.heap.size, 1, none⟩ = some (.int .i64 oM.b)) (first | exact key.out _ (below_drew _) | exact key.out _ (by assumption))
    (first | (go_at_call_of 41 (x0.a * x1.b + x1.a * x0.b); refine (L1.out _).mono ?_; rintro e w6 ⟨rfl, hb6⟩; have hb7 := below_step (‹_ ∧ _› : _ ∧ _).1 hb6) | (go_at_call_of 41 (x0.a * x1.a); refine (L2.out _).mono ?_; rintro e w6 ⟨rfl, hb6⟩; have hb7 := below_step (‹_ ∧ _› : _ ∧ _).1 hb6) | (go_at_call_of 40 (Value.agg #[.int .i64 oA.a, .int .i64 oA.b]); refine (told_any oA eA _ tA.out _).mono ?_; rintro e w6 ⟨rfl, hb6⟩; have hb7 := below_step (‹_ ∧ _› : _ ∧ _).1 hb6) | (go_at_call_of 40 (Value.agg #[.int .i64 oM.a, .int .i64 oM.b]); refine (told_any oM eM _ tM.out _).mono ?_; rintro e w6 ⟨rfl, hb6⟩; have hb7 := below_step (‹_ ∧ _› : _ ∧ _).1 hb6))
  all_goals
    go_wp2
    go_ret
    exact ⟨rfl, below_step hB (‹_ ∧ _› : _ ∧ _).1⟩

set_option maxHeartbeats 1000000 in
theorem counts_gt (x0 x1 : P2) (h0 : bothErr x0 x1 = 0) (hc : cmpVal x0 x1 = 1) (d1 : x0.a * x1.b - x1.a * x0.b > 0) (w : World) :
    Calls Try.prog 10 #[.agg #[.int .i64 x0.a, .int .i64 x0.b], .agg #[.int .i64 x1.a, .int .i64 x1.b]] w fun e w' => e = .returned (.bool true) ∧ Below w.heap.size w w' := by
  have hC := fun w => cmp_any x0 x1 w
  have hA := fun w => add_any x0 x1 w
  have hM := fun w => mul_any x0 x1 w
  have hR := fun w => rchk_any x0 w
  have hS := fun w => rchk_any x1 w
  obtain ⟨hr, hs⟩ := both_zero h0
  obtain ⟨r1, r2, r3, r4, _, _⟩ := chk_zero hr
  obtain ⟨s1, s2, s3, s4, _, _⟩ := chk_zero hs
  have m1 := mul_bd x0.a x1.b (by omega) (by omega)
  have m2 := mul_bd x1.a x0.b (by omega) (by omega)
  have m3 := mul_bd x0.b x1.b (by omega) (by omega)
  have m5 := mul_bd x0.a x1.a (by omega) (by omega)
  have m4 : 1 ≤ x0.b * x1.b := Int.mul_pos (by omega) (by omega)
  have tA := hide (told_op (x0.a * x1.b + x1.a * x0.b) (x0.b * x1.b) m4 x0 x1 h0)
  have tM := hide (told_op (x0.a * x1.a) (x0.b * x1.b) m4 x0 x1 h0)
  rw [hc, h0] at hC
  rw [← chk_rchk, hr] at hR
  rw [← chk_rchk, hs] at hS
  obtain ⟨oA, pA⟩ : ∃ o, o = opVal (x0.a * x1.b + x1.a * x0.b) (x0.b * x1.b) x0 x1 := ⟨_, rfl⟩
  obtain ⟨eA, qA⟩ : ∃ o, o = opErr (x0.a * x1.b + x1.a * x0.b) (x0.b * x1.b) x0 x1 := ⟨_, rfl⟩
  obtain ⟨oM, pM⟩ : ∃ o, o = opVal (x0.a * x1.a) (x0.b * x1.b) x0 x1 := ⟨_, rfl⟩
  obtain ⟨eM, qM⟩ : ∃ o, o = opErr (x0.a * x1.a) (x0.b * x1.b) x0 x1 := ⟨_, rfl⟩
  rw [← pA, ← qA] at hA tA
  rw [← pM, ← qM] at hM tM
  have hC := hide hC
  have hA := hide hA
  have hM := hide hM
  have hR := hide hR
  have hS := hide hS
  clear h0 hr hs hc pA qA pM qM
  go_enter Try.func10, Try.ntmps10
  go_wp2_with fail
  refine (hC.out _).mono ?_
  rintro e w1 ⟨rfl, hb1⟩
  obtain ⟨hc1, hf1⟩ := bcell hb1; have hz1 : w.heap.size + 1 < w1.heap.size := (by have := hb1.size; (try simp at this); omega)
  have hy1 : w.heap.size < w1.heap.size := by omega
  go_wp2_with fail
  refine (hA.out _).mono ?_
  rintro e w2 ⟨rfl, hb2⟩
  obtain ⟨hc2, hf2⟩ := bcell hb2; have hz2 : w.heap.size + 1 < w2.heap.size := (by have := hb2.size; (try simp at this); omega)
  have hy2 : w.heap.size < w2.heap.size := by omega
  go_wp2_with fail
  refine (hM.out _).mono ?_
  rintro e w3 ⟨rfl, hb3⟩
  obtain ⟨hc3, hf3⟩ := bcell hb3; have hz3 : w2.heap.size < w3.heap.size := (by have := hb3.size; (try simp at this); omega)
  have hx3 : w.heap.size + 1 < w3.heap.size := by omega
  have hy3 : w.heap.size < w3.heap.size := by omega
  go_wp2_with fail
  refine (hR.out _).mono ?_
  rintro e w4 ⟨rfl, hb4⟩
  obtain ⟨hc4, hf4⟩ := bcell hb4; have hz4 : w3.heap.size < w4.heap.size := (by have := hb4.size; (try simp at this); omega)
  have hx4 : w2.heap.size < w4.heap.size := by omega
  have hx4' : w2.heap.size < w3.heap.size := by omega
  go_wp2_with fail
  refine (hS.out _).mono ?_
  rintro e w5 ⟨rfl, hb5⟩
  obtain ⟨hc5, hf5⟩ := bcell hb5; have hz5 : w3.heap.size < w5.heap.size := (by have := hb5.size; (try simp at this); omega)
  have hx5 : w2.heap.size < w5.heap.size := by omega
  have hv5 : w.heap.size < w5.heap.size := by omega
  have hu5 : w.heap.size + 1 < w5.heap.size := by omega
  have hv4 : w.heap.size < w4.heap.size := by omega
  have hu4 : w.heap.size + 1 < w4.heap.size := by omega
  go_wp2_with fail
  have key : Hid (∀ w', Below w5.heap.size w5 w' → (Below w5.heap.size w5 w' ∧ w'.cell? ⟨w.heap.size, 0, none⟩ = some (.int .i64 x0.a) ∧ w'.cell? ⟨w.heap.size, 1, none⟩ = some (.int .i64 x0.b) ∧ w'.cell? ⟨w.heap.size + 1, 0, none⟩ = some (.int .i64 x1.a) ∧ w'.cell? ⟨w.heap.size + 1, 1, none⟩ = some (.int .i64 x1.b) ∧ w'.cell? ⟨w2.heap.size, 0, none⟩ = some (.int .i64 oA.a) ∧ w'.cell? ⟨w2.heap.size, 1, none⟩ = some (.int .i64 oA.b) ∧ w'.cell? ⟨w3.heap.size, 0, none⟩ = some (.int .i64 oM.a) ∧ w'.cell? ⟨w3.heap.size, 1, none⟩ = some (.int .i64 oM.b))) := by
    intro w' hb
    refine ⟨hb, ?_, ?_, ?_, ?_, ?_, ?_, ?_, ?_⟩
    all_goals rw [hb.cell (by first | assumption | (simp <;> omega))]
    all_goals simp [go_sem, hc5, hc4, hc3, hc2, hc1, hz1, hz2, hz3, hz4, hz5, hx3, hx4, hx4', hx5, hy1, hy2, hy3, hv5, hu5, hv4, hu4]
  have hB : Below w.heap.size w w5 := (by repeat (first | exact Below.refl _ _ | assumption | (refine Below.trans ?_ (Below.mono (by assumption) ?_); rotate_left; (first | omega | (simp <;> omega) | simp)) | refine below_drewN ?_ _ | refine Below.drew ?_ | refine Below.alloc ?_ (by first | omega | (simp <;> omega) | simp) _ | refine Below.setCell ?_ (by first | omega | (simp <;> omega) | simp) _))
  clear hc1 hc2 hc3 hc4 hc5 hf1 hf2 hf3 hf4 hf5 hb1 hb2 hb3 hb4 hb5 hz1 hz2 hz3 hz4 hz5 hx3 hx4 hx4' hx5 hy1 hy2 hy3 hv5 hu5 hv4 hu4
  have L1 := hide (fun w => rleast_any (x0.a * x1.b + x1.a * x0.b) (x0.b * x1.b) (by omega) (by omega) w)
  have L2 := hide (fun w => rleast_any (x0.a * x1.a) (x0.b * x1.b) (by omega) (by omega) w)
  have W1 : IntKind.i64.wrap (x0.a * x1.b) = x0.a * x1.b := IntWalk.i64_in _ (by omega)
  have W2 : IntKind.i64.wrap (x1.a * x0.b) = x1.a * x0.b := IntWalk.i64_in _ (by omega)
  have W3 : IntKind.i64.wrap (x0.a * x1.b + x1.a * x0.b) = x0.a * x1.b + x1.a * x0.b := IntWalk.i64_in _ (by omega)
  have W4 : IntKind.i64.wrap (x0.b * x1.b) = x0.b * x1.b := IntWalk.i64_in _ (by omega)
  have W5 : IntKind.i64.wrap (x0.a * x1.a) = x0.a * x1.a := IntWalk.i64_in _ (by omega)
  clear m1 m2 m3 m4 m5 d1
  go_region_held3 (fun w' => Below w5.heap.size w5 w' ∧ w'.cell? ⟨w.heap.size, 0, none⟩ = some (.int .i64 x0.a) ∧ w'.cell? ⟨w.heap.size, 1, none⟩ = some (.int .i64 x0.b) ∧ w'.cell? ⟨w.heap.size + 1, 0, none⟩ = some (.int .i64 x1.a) ∧ w'.cell? ⟨w.heap.size + 1, 1, none⟩ = some (.int .i64 x1.b) ∧ w'.cell? ⟨w2.heap.size, 0, none⟩ = some (.int .i64 oA.a) ∧ w'.cell? ⟨w2.heap.size, 1, none⟩ = some (.int .i64 oA.b) ∧ w'.cell? ⟨w3.heap.size, 0, none⟩ = some (.int .i64 oM.a) ∧ w'.cell? ⟨w3.heap.size, 1, none⟩ = some (.int .i64 oM.b)) (first | exact key.out _ (below_drew _) | exact key.out _ (by assumption))
    (first | (go_at_call_of 41 (x0.a * x1.b + x1.a * x0.b); refine (L1.out _).mono ?_; rintro e w6 ⟨rfl, hb6⟩; have hb7 := below_step (‹_ ∧ _› : _ ∧ _).1 hb6) | (go_at_call_of 41 (x0.a * x1.a); refine (L2.out _).mono ?_; rintro e w6 ⟨rfl, hb6⟩; have hb7 := below_step (‹_ ∧ _› : _ ∧ _).1 hb6) | (go_at_call_of 40 (Value.agg #[.int .i64 oA.a, .int .i64 oA.b]); refine (told_any oA eA _ tA.out _).mono ?_; rintro e w6 ⟨rfl, hb6⟩; have hb7 := below_step (‹_ ∧ _› : _ ∧ _).1 hb6) | (go_at_call_of 40 (Value.agg #[.int .i64 oM.a, .int .i64 oM.b]); refine (told_any oM eM _ tM.out _).mono ?_; rintro e w6 ⟨rfl, hb6⟩; have hb7 := below_step (‹_ ∧ _› : _ ∧ _).1 hb6))
  all_goals
    go_wp2
    go_ret
    exact ⟨rfl, below_step hB (‹_ ∧ _› : _ ∧ _).1⟩

set_option maxHeartbeats 1000000 in
theorem counts_eq (x0 x1 : P2) (h0 : bothErr x0 x1 = 0) (hc : cmpVal x0 x1 = 0) (d1 : x0.a * x1.b - x1.a * x0.b = 0) (w : World) :
    Calls Try.prog 10 #[.agg #[.int .i64 x0.a, .int .i64 x0.b], .agg #[.int .i64 x1.a, .int .i64 x1.b]] w fun e w' => e = .returned (.bool true) ∧ Below w.heap.size w w' := by
  have hC := fun w => cmp_any x0 x1 w
  have hA := fun w => add_any x0 x1 w
  have hM := fun w => mul_any x0 x1 w
  have hR := fun w => rchk_any x0 w
  have hS := fun w => rchk_any x1 w
  obtain ⟨hr, hs⟩ := both_zero h0
  obtain ⟨r1, r2, r3, r4, _, _⟩ := chk_zero hr
  obtain ⟨s1, s2, s3, s4, _, _⟩ := chk_zero hs
  have m1 := mul_bd x0.a x1.b (by omega) (by omega)
  have m2 := mul_bd x1.a x0.b (by omega) (by omega)
  have m3 := mul_bd x0.b x1.b (by omega) (by omega)
  have m5 := mul_bd x0.a x1.a (by omega) (by omega)
  have m4 : 1 ≤ x0.b * x1.b := Int.mul_pos (by omega) (by omega)
  have tA := hide (told_op (x0.a * x1.b + x1.a * x0.b) (x0.b * x1.b) m4 x0 x1 h0)
  have tM := hide (told_op (x0.a * x1.a) (x0.b * x1.b) m4 x0 x1 h0)
  rw [hc, h0] at hC
  rw [← chk_rchk, hr] at hR
  rw [← chk_rchk, hs] at hS
  obtain ⟨oA, pA⟩ : ∃ o, o = opVal (x0.a * x1.b + x1.a * x0.b) (x0.b * x1.b) x0 x1 := ⟨_, rfl⟩
  obtain ⟨eA, qA⟩ : ∃ o, o = opErr (x0.a * x1.b + x1.a * x0.b) (x0.b * x1.b) x0 x1 := ⟨_, rfl⟩
  obtain ⟨oM, pM⟩ : ∃ o, o = opVal (x0.a * x1.a) (x0.b * x1.b) x0 x1 := ⟨_, rfl⟩
  obtain ⟨eM, qM⟩ : ∃ o, o = opErr (x0.a * x1.a) (x0.b * x1.b) x0 x1 := ⟨_, rfl⟩
  rw [← pA, ← qA] at hA tA
  rw [← pM, ← qM] at hM tM
  have hC := hide hC
  have hA := hide hA
  have hM := hide hM
  have hR := hide hR
  have hS := hide hS
  clear h0 hr hs hc pA qA pM qM
  go_enter Try.func10, Try.ntmps10
  go_wp2_with fail
  refine (hC.out _).mono ?_
  rintro e w1 ⟨rfl, hb1⟩
  obtain ⟨hc1, hf1⟩ := bcell hb1; have hz1 : w.heap.size + 1 < w1.heap.size := (by have := hb1.size; (try simp at this); omega)
  have hy1 : w.heap.size < w1.heap.size := by omega
  go_wp2_with fail
  refine (hA.out _).mono ?_
  rintro e w2 ⟨rfl, hb2⟩
  obtain ⟨hc2, hf2⟩ := bcell hb2; have hz2 : w.heap.size + 1 < w2.heap.size := (by have := hb2.size; (try simp at this); omega)
  have hy2 : w.heap.size < w2.heap.size := by omega
  go_wp2_with fail
  refine (hM.out _).mono ?_
  rintro e w3 ⟨rfl, hb3⟩
  obtain ⟨hc3, hf3⟩ := bcell hb3; have hz3 : w2.heap.size < w3.heap.size := (by have := hb3.size; (try simp at this); omega)
  have hx3 : w.heap.size + 1 < w3.heap.size := by omega
  have hy3 : w.heap.size < w3.heap.size := by omega
  go_wp2_with fail
  refine (hR.out _).mono ?_
  rintro e w4 ⟨rfl, hb4⟩
  obtain ⟨hc4, hf4⟩ := bcell hb4; have hz4 : w3.heap.size < w4.heap.size := (by have := hb4.size; (try simp at this); omega)
  have hx4 : w2.heap.size < w4.heap.size := by omega
  have hx4' : w2.heap.size < w3.heap.size := by omega
  go_wp2_with fail
  refine (hS.out _).mono ?_
  rintro e w5 ⟨rfl, hb5⟩
  obtain ⟨hc5, hf5⟩ := bcell hb5; have hz5 : w3.heap.size < w5.heap.size := (by have := hb5.size; (try simp at this); omega)
  have hx5 : w2.heap.size < w5.heap.size := by omega
  have hv5 : w.heap.size < w5.heap.size := by omega
  have hu5 : w.heap.size + 1 < w5.heap.size := by omega
  have hv4 : w.heap.size < w4.heap.size := by omega
  have hu4 : w.heap.size + 1 < w4.heap.size := by omega
  go_wp2_with fail
  have key : Hid (∀ w', Below w5.heap.size w5 w' → (Below w5.heap.size w5 w' ∧ w'.cell? ⟨w.heap.size, 0, none⟩ = some (.int .i64 x0.a) ∧ w'.cell? ⟨w.heap.size, 1, none⟩ = some (.int .i64 x0.b) ∧ w'.cell? ⟨w.heap.size + 1, 0, none⟩ = some (.int .i64 x1.a) ∧ w'.cell? ⟨w.heap.size + 1, 1, none⟩ = some (.int .i64 x1.b) ∧ w'.cell? ⟨w2.heap.size, 0, none⟩ = some (.int .i64 oA.a) ∧ w'.cell? ⟨w2.heap.size, 1, none⟩ = some (.int .i64 oA.b) ∧ w'.cell? ⟨w3.heap.size, 0, none⟩ = some (.int .i64 oM.a) ∧ w'.cell? ⟨w3.heap.size, 1, none⟩ = some (.int .i64 oM.b))) := by
    intro w' hb
    refine ⟨hb, ?_, ?_, ?_, ?_, ?_, ?_, ?_, ?_⟩
    all_goals rw [hb.cell (by first | assumption | (simp <;> omega))]
    all_goals simp [go_sem, hc5, hc4, hc3, hc2, hc1, hz1, hz2, hz3, hz4, hz5, hx3, hx4, hx4', hx5, hy1, hy2, hy3, hv5, hu5, hv4, hu4]
  have hB : Below w.heap.size w w5 := (by repeat (first | exact Below.refl _ _ | assumption | (refine Below.trans ?_ (Below.mono (by assumption) ?_); rotate_left; (first | omega | (simp <;> omega) | simp)) | refine below_drewN ?_ _ | refine Below.drew ?_ | refine Below.alloc ?_ (by first | omega | (simp <;> omega) | simp) _ | refine Below.setCell ?_ (by first | omega | (simp <;> omega) | simp) _))
  clear hc1 hc2 hc3 hc4 hc5 hf1 hf2 hf3 hf4 hf5 hb1 hb2 hb3 hb4 hb5 hz1 hz2 hz3 hz4 hz5 hx3 hx4 hx4' hx5 hy1 hy2 hy3 hv5 hu5 hv4 hu4
  have L1 := hide (fun w => rleast_any (x0.a * x1.b + x1.a * x0.b) (x0.b * x1.b) (by omega) (by omega) w)
  have L2 := hide (fun w => rleast_any (x0.a * x1.a) (x0.b * x1.b) (by omega) (by omega) w)
  have W1 : IntKind.i64.wrap (x0.a * x1.b) = x0.a * x1.b := IntWalk.i64_in _ (by omega)
  have W2 : IntKind.i64.wrap (x1.a * x0.b) = x1.a * x0.b := IntWalk.i64_in _ (by omega)
  have W3 : IntKind.i64.wrap (x0.a * x1.b + x1.a * x0.b) = x0.a * x1.b + x1.a * x0.b := IntWalk.i64_in _ (by omega)
  have W4 : IntKind.i64.wrap (x0.b * x1.b) = x0.b * x1.b := IntWalk.i64_in _ (by omega)
  have W5 : IntKind.i64.wrap (x0.a * x1.a) = x0.a * x1.a := IntWalk.i64_in _ (by omega)
  clear m1 m2 m3 m4 m5 d1
  go_region_held3 (fun w' => Below w5.heap.size w5 w' ∧ w'.cell? ⟨w.heap.size, 0, none⟩ = some (.int .i64 x0.a) ∧ w'.cell? ⟨w.heap.size, 1, none⟩ = some (.int .i64 x0.b) ∧ w'.cell? ⟨w.heap.size + 1, 0, none⟩ = some (.int .i64 x1.a) ∧ w'.cell? ⟨w.heap.size + 1, 1, none⟩ = some (.int .i64 x1.b) ∧ w'.cell? ⟨w2.heap.size, 0, none⟩ = some (.int .i64 oA.a) ∧ w'.cell? ⟨w2.heap.size, 1, none⟩ = some (.int .i64 oA.b) ∧ w'.cell? ⟨w3.heap.size, 0, none⟩ = some (.int .i64 oM.a) ∧ w'.cell? ⟨w3.heap.size, 1, none⟩ = some (.int .i64 oM.b)) (first | exact key.out _ (below_drew _) | exact key.out _ (by assumption))
    (first | (go_at_call_of 41 (x0.a * x1.b + x1.a * x0.b); refine (L1.out _).mono ?_; rintro e w6 ⟨rfl, hb6⟩; have hb7 := below_step (‹_ ∧ _› : _ ∧ _).1 hb6) | (go_at_call_of 41 (x0.a * x1.a); refine (L2.out _).mono ?_; rintro e w6 ⟨rfl, hb6⟩; have hb7 := below_step (‹_ ∧ _› : _ ∧ _).1 hb6) | (go_at_call_of 40 (Value.agg #[.int .i64 oA.a, .int .i64 oA.b]); refine (told_any oA eA _ tA.out _).mono ?_; rintro e w6 ⟨rfl, hb6⟩; have hb7 := below_step (‹_ ∧ _› : _ ∧ _).1 hb6) | (go_at_call_of 40 (Value.agg #[.int .i64 oM.a, .int .i64 oM.b]); refine (told_any oM eM _ tM.out _).mono ?_; rintro e w6 ⟨rfl, hb6⟩; have hb7 := below_step (‹_ ∧ _› : _ ∧ _).1 hb6))
  all_goals
    go_wp2
    go_ret
    exact ⟨rfl, below_step hB (‹_ ∧ _› : _ ∧ _).1⟩

set_option maxHeartbeats 1000000 in
theorem walk_RatioCounts (x0 : P2) (x1 : P2) (w : World) (b0 : Bd x0.a) (c0 : Bd x0.b) (b1 : Bd x1.a) (c1 : Bd x1.b) :
    Calls Try.prog 10 #[.agg #[.int .i64 x0.a, .int .i64 x0.b], .agg #[.int .i64 x1.a, .int .i64 x1.b]] w fun e w' => e = .returned (.bool true) ∧ Below w.heap.size w w' := by
  have hC := fun w => cmp_any x0 x1 w
  have hA := fun w => add_any x0 x1 w
  have hM := fun w => mul_any x0 x1 w
  have hR := fun w => rchk_any x0 w
  have hS := fun w => rchk_any x1 w
  by_cases h0 : bothErr x0 x1 = 0
  · by_cases g1 : x0.a * x1.b < x1.a * x0.b
    · exact counts_lt x0 x1 h0 (by simp only [cmpVal, h0]; rw [if_neg (by simp), if_pos g1]) (by omega) w
    · by_cases g2 : x1.a * x0.b < x0.a * x1.b
      · exact counts_gt x0 x1 h0 (by simp only [cmpVal, h0]; rw [if_neg (by simp), if_neg g1, if_pos g2]) (by omega) w
      · exact counts_eq x0 x1 h0 (by simp only [cmpVal, h0]; rw [if_neg (by simp), if_neg g1, if_neg g2]) (by omega) w
  · have hE : bothErr x0 x1 = 3 ∧ (rchk x0 = 3 ∨ (rchk x0 = 0 ∧ rchk x1 = 3)) := by
      rw [← chk_rchk, ← chk_rchk]
      have g : ∀ r, chk r = 0 ∨ chk r = 3 := fun r => by simp only [chk]; split <;> simp
      have g0 := g x0
      have g1 := g x1
      simp only [bothErr] at h0 ⊢
      split at h0 <;> split <;> omega
    obtain ⟨e1, e2⟩ := hE
    have v1 : cmpVal x0 x1 = 0 := by simp [cmpVal, e1]
    have v2 : ∀ n d, opErr n d x0 x1 = 3 := fun n d => by simp [opErr, e1]
    have v3 : ∀ n d, opVal n d x0 x1 = ⟨0, 0⟩ := fun n d => by simp [opVal, e1]
    simp only [e1, v1, v2, v3] at hC hA hM
    rcases e2 with e2 | ⟨e2, e3⟩
    · simp only [e2] at hR
      have hC := hide hC
      have hA := hide hA
      have hM := hide hM
      have hR := hide hR
      clear hS h0 e1 v1 v2 v3 e2
      go_enter Try.func10, Try.ntmps10
      go_wp2_with fail
      refine (hC.out _).mono ?_
      rintro e w1 ⟨rfl, hb1⟩
      obtain ⟨hc1, hf1⟩ := bcell hb1; have hz1 : w.heap.size + 1 < w1.heap.size := (by have := hb1.size; (try simp at this); omega)
      have hy1 : w.heap.size < w1.heap.size := by omega
      go_wp2_with fail
      refine (hA.out _).mono ?_
      rintro e w2 ⟨rfl, hb2⟩
      obtain ⟨hc2, hf2⟩ := bcell hb2; have hz2 : w.heap.size + 1 < w2.heap.size := (by have := hb2.size; (try simp at this); omega)
      have hy2 : w.heap.size < w2.heap.size := by omega
      go_wp2_with fail
      refine (hM.out _).mono ?_
      rintro e w3 ⟨rfl, hb3⟩
      obtain ⟨hc3, hf3⟩ := bcell hb3; have hz3 : w2.heap.size < w3.heap.size := (by have := hb3.size; (try simp at this); omega)
      have hx3 : w.heap.size + 1 < w3.heap.size := by omega
      have hy3 : w.heap.size < w3.heap.size := by omega
      go_wp2_with fail
      refine (hR.out _).mono ?_
      rintro e w4 ⟨rfl, hb4⟩
      obtain ⟨hc4, hf4⟩ := bcell hb4; have hz4 : w3.heap.size < w4.heap.size := (by have := hb4.size; (try simp at this); omega)
      have hx4 : w2.heap.size < w4.heap.size := by omega
      have hx4' : w2.heap.size < w3.heap.size := by omega
      go_wp2_with fail
      go_ret
      exact ⟨rfl, (by repeat (first | exact Below.refl _ _ | assumption | (refine Below.trans ?_ (Below.mono (by assumption) ?_); rotate_left; (first | omega | (simp <;> omega) | simp)) | refine below_drewN ?_ _ | refine Below.drew ?_ | refine Below.alloc ?_ (by first | omega | (simp <;> omega) | simp) _ | refine Below.setCell ?_ (by first | omega | (simp <;> omega) | simp) _))⟩
    · simp only [e2] at hR
      simp only [e3] at hS
      have hC := hide hC
      have hA := hide hA
      have hM := hide hM
      have hR := hide hR
      have hS := hide hS
      clear h0 e1 v1 v2 v3 e2 e3
      go_enter Try.func10, Try.ntmps10
      go_wp2_with fail
      refine (hC.out _).mono ?_
      rintro e w1 ⟨rfl, hb1⟩
      obtain ⟨hc1, hf1⟩ := bcell hb1; have hz1 : w.heap.size + 1 < w1.heap.size := (by have := hb1.size; (try simp at this); omega)
      have hy1 : w.heap.size < w1.heap.size := by omega
      go_wp2_with fail
      refine (hA.out _).mono ?_
      rintro e w2 ⟨rfl, hb2⟩
      obtain ⟨hc2, hf2⟩ := bcell hb2; have hz2 : w.heap.size + 1 < w2.heap.size := (by have := hb2.size; (try simp at this); omega)
      have hy2 : w.heap.size < w2.heap.size := by omega
      go_wp2_with fail
      refine (hM.out _).mono ?_
      rintro e w3 ⟨rfl, hb3⟩
      obtain ⟨hc3, hf3⟩ := bcell hb3; have hz3 : w2.heap.size < w3.heap.size := (by have := hb3.size; (try simp at this); omega)
      have hx3 : w.heap.size + 1 < w3.heap.size := by omega
      have hy3 : w.heap.size < w3.heap.size := by omega
      go_wp2_with fail
      refine (hR.out _).mono ?_
      rintro e w4 ⟨rfl, hb4⟩
      obtain ⟨hc4, hf4⟩ := bcell hb4; have hz4 : w3.heap.size < w4.heap.size := (by have := hb4.size; (try simp at this); omega)
      have hx4 : w2.heap.size < w4.heap.size := by omega
      have hx4' : w2.heap.size < w3.heap.size := by omega
      go_wp2_with fail
      refine (hS.out _).mono ?_
      rintro e w5 ⟨rfl, hb5⟩
      obtain ⟨hc5, hf5⟩ := bcell hb5; have hz5 : w3.heap.size < w5.heap.size := (by have := hb5.size; (try simp at this); omega)
      have hx5 : w2.heap.size < w5.heap.size := by omega
      go_wp2_with fail
      go_ret
      exact ⟨rfl, (by repeat (first | exact Below.refl _ _ | assumption | (refine Below.trans ?_ (Below.mono (by assumption) ?_); rotate_left; (first | omega | (simp <;> omega) | simp)) | refine below_drewN ?_ _ | refine Below.drew ?_ | refine Below.alloc ?_ (by first | omega | (simp <;> omega) | simp) _ | refine Below.setCell ?_ (by first | omega | (simp <;> omega) | simp) _))⟩

set_option maxRecDepth 100000 in
theorem lifted_RatioCounts (os : Os) (started : os.Started) (H : Type) (enc : TypeId × Value → H) :
    ReturnsInHanded {} Try.checked os 10 .any (Rows.ratioCountsSpec.pre6 enc Try.prog Try.f10 Rows.ratioCountsRow.domain false) (Rows.ratioCountsSpec.post enc Try.prog Try.f10 false true false false) := by
  refine returnsInHanded_of_change (C := Try.checked) own started (by kernel_rfl) Try.func10
    (ChangeSpec.witness6 (enc := enc) (C := Try.checked) false ⟨#[], #[.agg #[.int .i64 0, .int .i64 0], .agg #[.int .i64 0, .int .i64 0]], []⟩ 8 (by kernel_rfl) (by kernel_rfl) (by kernel_rfl) (by kernel_rfl)) ?_
  intro W base args ds gs before hval0 hW hcnd _
  have hval : ∀ (j : Nat) t v, Try.f10.params[j]? = some t → args[j]? = some v → Value.okWide Try.prog W .any base t v := hval0
  have hW' := hW
  obtain ⟨p, q, hA0, hV, rfl, hfz, hnd⟩ := hW
  have hA : DataW.TrodAll enc Try.prog W 0 (fun _ => true) true Try.f10.params.toList args.toList ds p := hA0
  rw [Try.params10] at hA hval
  obtain ⟨v0, vs0, d0, ds0, p0, q0, hargs, rfl, rfl, h0, r0⟩ := trodAll_cons hA
  obtain ⟨v1, vs1, d1, ds1, p1, q1, rfl, rfl, rfl, h1, r1⟩ := trodAll_cons r0
  obtain ⟨rfl, rfl, rfl⟩ := trodAll_nil r1
  obtain rfl : args = #[v0, v1] := by cases args; simp_all
  obtain ⟨rfl, rfl⟩ := trodVars_none hV
  have k0 := h0
  have lt0 : ∀ x ∈ p0, x.block < W.heap.size := by obtain ⟨m, hm⟩ := k0; exact DataW.trod_lt m _ _ _ hm
  have k1 := h1
  have lt1 : ∀ x ∈ p1, x.block < W.heap.size := by obtain ⟨m, hm⟩ := k1; exact DataW.trod_lt m _ _ _ hm
  obtain ⟨x0, rfl, b0, c0⟩ := read_p2 Try.underlying27 (by kernel_rfl) (by kernel_rfl) Try.underlying3 Try.underlying3 (hval 0 27 v0 rfl rfl) h0
  obtain ⟨x1, rfl, b1, c1⟩ := read_p2 Try.underlying27 (by kernel_rfl) (by kernel_rfl) Try.underlying3 Try.underlying3 (hval 1 27 v1 rfl rfl) h1
  clear hA0 hval0
  refine (walk_RatioCounts x0 x1 W b0 c0 b1 c1).mono fun e W' ⟨he, bel⟩ => ?_
  subst he
  exact ⟨_, rfl, _, _, _, [], _, [], hW', trodAll_mk1 (shut_bool Try.underlying4 _), (trodAll_cons_mk (Below.trod laidOut (by kernel_rfl) (of_decide_eq_true (by kernel_rfl)) k0 bel lt0) (trodAll_cons_mk (Below.trod laidOut (by kernel_rfl) (of_decide_eq_true (by kernel_rfl)) k1 bel lt1) trodAll_mk0)), rfl, bel.frame _, fun h => by cases h⟩

theorem over_RatioCounts : Rows.ratioCountsRow.holds Try.pinned (OpenSpec.ofChange Rows.ratioCountsSpec) :=
  OpenClaim.holds_of_wide 10 Try.f10 rfl rfl rfl rfl rfl rfl rfl ⟨rfl, rfl, rfl, rfl, rfl⟩ rfl rfl rfl rfl rfl (by kernel_rfl) Try.func10 (by kernel_rfl)
    (of_decide_eq_true (by kernel_rfl)) (by unfold Func.isWrapper; first | (rw [if_pos (by decide +kernel)]; kernel_rfl) | (rw [if_neg (by decide +kernel)]; exact ⟨rfl, rfl⟩))
    (fun os started H enc _ => lifted_RatioCounts os started H enc)

/-- The given statement. -/
theorem proved_RatioCounts : Rows.RatioCountsSaid := over_RatioCounts
#print axioms proved_RatioCounts

end Go.Proofs.Ytiibhdibeljcjaa
