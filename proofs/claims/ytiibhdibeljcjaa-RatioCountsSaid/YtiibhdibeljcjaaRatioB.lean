/-
  What Cmp, Add and Mul of package ratio return, whatever they are given.
-/
import Derived.Test.YtiibhdibeljcjaaRatio
import Derived.BigQuiet
import Derived.Deep.QuietTactic
import Derived.Deep.RegionHeld3
import Derived.WalkSpells
import Derived.WalkLawsBesides
namespace Go.Proofs.Ytiibhdibeljcjaa
open Go.RowKit
set_option linter.unusedSimpArgs false

def bothErr (r s : P2) : Int := if chk r ≠ 0 then chk r else chk s
theorem both_any (r s : P2) (w : World) :
    Calls Try.prog 74 #[.agg #[.int .i64 r.a, .int .i64 r.b], .agg #[.int .i64 s.a, .int .i64 s.b]] w fun e w' => e = .returned (.int .i64 (bothErr r s)) ∧ Below w.heap.size w w' := by
  go_enter Try.func74, Try.ntmps74
  go_wp2_with fail
  refine (chk_any r _).mono ?_
  rintro e w1 ⟨rfl, hb⟩
  obtain ⟨hc, hf⟩ := bcell hb
  have hz := hb.size
  simp at hz
  go_wp2_with fail
  · go_ret
    exact ⟨ret_int (by simp only [bothErr]; clear hc hf; simp only [bne_iff_ne, beq_iff_eq, bne_eq_false_iff_eq, beq_eq_false_iff_ne, ne_eq, decide_eq_true_eq, decide_eq_false_iff_not, Bool.not_eq_true, Bool.not_eq_false] at *; split <;> omega), (by repeat (first | exact Below.refl _ _ | assumption | (refine Below.trans ?_ (Below.mono (by assumption) ?_); rotate_left; (first | omega | (simp <;> omega) | simp)) | refine below_drewN ?_ _ | refine Below.drew ?_ | refine Below.alloc ?_ (by first | omega | (simp <;> omega) | simp) _ | refine Below.setCell ?_ (by first | omega | (simp <;> omega) | simp) _))⟩
  · refine (chk_any s _).mono ?_
    rintro e w2 ⟨rfl, hb2⟩
    go_wp2
    go_ret
    exact ⟨ret_int (by simp only [bothErr]; clear hc hf; simp only [bne_iff_ne, beq_iff_eq, bne_eq_false_iff_eq, beq_eq_false_iff_ne, ne_eq, decide_eq_true_eq, decide_eq_false_iff_not, Bool.not_eq_true, Bool.not_eq_false] at *; split <;> omega), (by repeat (first | exact Below.refl _ _ | assumption | (refine Below.trans ?_ (Below.mono (by assumption) ?_); rotate_left; (first | omega | (simp <;> omega) | simp)) | refine below_drewN ?_ _ | refine Below.drew ?_ | refine Below.alloc ?_ (by first | omega | (simp <;> omega) | simp) _ | refine Below.setCell ?_ (by first | omega | (simp <;> omega) | simp) _))⟩

def cmpVal (r s : P2) : Int := if bothErr r s ≠ 0 then 0 else if r.a * s.b < s.a * r.b then -1 else if s.a * r.b < r.a * s.b then 1 else 0
theorem mul_bd (a b : Int) (ha : -1000000 ≤ a ∧ a ≤ 1000000) (hb : -1000000 ≤ b ∧ b ≤ 1000000) : -1000000000000 ≤ a * b ∧ a * b ≤ 1000000000000 := by
  have h : (a * b).natAbs ≤ 1000000 * 1000000 := by
    rw [Int.natAbs_mul]; exact Nat.mul_le_mul (by omega) (by omega)
  omega
theorem chk_zero {r : P2} (h : chk r = 0) : 1 ≤ r.b ∧ r.b ≤ 1000000 ∧ -1000000 ≤ r.a ∧ r.a ≤ 1000000 ∧ (mkVal r.a r.b) = r ∧ mkErr r.a r.b = 0 := by
  simp only [chk] at h
  split at h
  · omega
  · rename_i g
    simp only [not_or, Decidable.not_not, ne_eq] at g
    have g1 : ¬ (r.b < 1 ∨ ratWithin r.a = false ∨ ratWithin r.b = false) := by
      have := g.1; unfold mkErr at this; intro hh; rw [if_pos hh] at this; omega
    simp only [not_or, Bool.not_eq_false] at g1
    have b2 := (ratWithin_iff _).1 g1.2.1
    have b3 := (ratWithin_iff _).1 g1.2.2
    refine ⟨by omega, by omega, by omega, by omega, ?_, g.1⟩
    cases hv : mkVal r.a r.b; cases r; simp_all
theorem both_zero {r s : P2} (h : bothErr r s = 0) : chk r = 0 ∧ chk s = 0 := by
  simp only [bothErr] at h; split at h <;> omega
theorem cmp_any (r s : P2) (w : World) :
    Calls Try.prog 37 #[.agg #[.int .i64 r.a, .int .i64 r.b], .agg #[.int .i64 s.a, .int .i64 s.b]] w fun e w' => e = .returned (.tuple #[.int .i64 (cmpVal r s), .int .i64 (bothErr r s)]) ∧ Below w.heap.size w w' := by
  by_cases h0 : bothErr r s = 0
  · obtain ⟨hr, hs⟩ := both_zero h0
    obtain ⟨r1, r2, r3, r4, _, _⟩ := chk_zero hr
    obtain ⟨s1, s2, s3, s4, _, _⟩ := chk_zero hs
    have m1 := mul_bd r.a s.b (by omega) (by omega)
    have m2 := mul_bd s.a r.b (by omega) (by omega)
    have q0 : (bothErr r s != 0) = false := by simp [h0]
    have hq := hide h0
    clear h0 hr hs
    go_enter Try.func37, Try.ntmps37
    go_wp2_with fail
    refine (both_any r s _).mono ?_
    rintro e w1 ⟨rfl, hb⟩
    obtain ⟨hc, hf⟩ := bcell hb
    have hz := hb.size
    simp at hz
    go_wp2
    go_quiet (fail)
    go_wp2
    all_goals
      go_ret2
      refine ⟨?_, (by repeat (first | exact Below.refl _ _ | assumption | (refine Below.trans ?_ (Below.mono (by assumption) ?_); rotate_left; (first | omega | (simp <;> omega) | simp)) | refine below_drewN ?_ _ | refine Below.drew ?_ | refine Below.alloc ?_ (by first | omega | (simp <;> omega) | simp) _ | refine Below.setCell ?_ (by first | omega | (simp <;> omega) | simp) _))⟩
      rw [hq.out]
      have hv : cmpVal r s = if r.a * s.b < s.a * r.b then -1 else if s.a * r.b < r.a * s.b then 1 else 0 := by simp only [cmpVal, hq.out]; rfl
      rw [hv]
      clear hc hf
      repeat' split
      all_goals first | rfl | omega
  · have q0 : (bothErr r s != 0) = true := by simp [h0]
    have hv : cmpVal r s = 0 := by simp [cmpVal, h0]
    have hv := hide hv
    go_enter Try.func37, Try.ntmps37
    go_wp2_with fail
    refine (both_any r s _).mono ?_
    rintro e w1 ⟨rfl, hb⟩
    go_wp2
    go_ret2
    exact ⟨by rw [hv.out]; rfl, (by repeat (first | exact Below.refl _ _ | assumption | (refine Below.trans ?_ (Below.mono (by assumption) ?_); rotate_left; (first | omega | (simp <;> omega) | simp)) | refine below_drewN ?_ _ | refine Below.drew ?_ | refine Below.alloc ?_ (by first | omega | (simp <;> omega) | simp) _ | refine Below.setCell ?_ (by first | omega | (simp <;> omega) | simp) _))⟩

def fitErr (n d : Int) : Int := if ratWithin (lst n d).a = false ∨ ratWithin (lst n d).b = false then 2 else 0
def fitVal (n d : Int) : P2 := if fitErr n d ≠ 0 then ⟨0, 0⟩ else lst n d
theorem fits_any (n d : Int) (hn : -4611686018427387904 ≤ n ∧ n ≤ 4611686018427387904) (hd : 1 ≤ d ∧ d ≤ 4611686018427387904) (w : World) :
    Calls Try.prog 75 #[.int .i64 n, .int .i64 d] w fun e w' => e = .returned (.tuple #[.agg #[.int .i64 (fitVal n d).a, .int .i64 (fitVal n d).b], .int .i64 (fitErr n d)]) ∧ Below w.heap.size w w' := by
  by_cases h1 : ratWithin (lst n d).a = true
  · by_cases h2 : ratWithin (lst n d).b = true
    · have hv : fitVal n d = lst n d := by simp [fitVal, fitErr, h1, h2]
      have he : fitErr n d = 0 := by simp [fitErr, h1, h2]
      rw [hv, he]
      clear hv he
      go_enter Try.func75, Try.ntmps75
      go_wp2_with (first | (go_at_call 57; refine (within_any _ _).mono ?_; rintro e w' ⟨rfl, rfl⟩) | (go_at_call 58; refine (least_any _ _ (by omega) (by omega) _).mono ?_; rintro e w1 ⟨rfl, hb⟩; obtain ⟨hc, hf⟩ := bcell hb; have hz := hb.size; simp at hz; have hz2 : w.heap.size < w1.heap.size := by omega))
      exact bodyPost_ret (v := .tuple #[.agg #[.int .i64 (lst n d).a, .int .i64 (lst n d).b], .int .i64 0]) (by simp [results, Try.results75, go_sem, hc, hz2]) rfl ⟨rfl, (by repeat (first | exact Below.refl _ _ | assumption | (refine Below.trans ?_ (Below.mono (by assumption) ?_); rotate_left; (first | omega | (simp <;> omega) | simp)) | refine below_drewN ?_ _ | refine Below.drew ?_ | refine Below.alloc ?_ (by first | omega | (simp <;> omega) | simp) _ | refine Below.setCell ?_ (by first | omega | (simp <;> omega) | simp) _))⟩
    · have h2' : ratWithin (lst n d).b = false := by simpa using h2
      have he : fitErr n d = 2 := by simp [fitErr, h2']
      have hv : fitVal n d = ⟨0, 0⟩ := by simp [fitVal, he]
      rw [hv, he]
      clear hv he h2
      go_enter Try.func75, Try.ntmps75
      go_wp2_with (first | (go_at_call 57; refine (within_any _ _).mono ?_; rintro e w' ⟨rfl, rfl⟩) | (go_at_call 58; refine (least_any _ _ (by omega) (by omega) _).mono ?_; rintro e w1 ⟨rfl, hb⟩; obtain ⟨hc, hf⟩ := bcell hb; have hz := hb.size; simp at hz; have hz2 : w.heap.size < w1.heap.size := by omega))
      exact bodyPost_ret (v := .tuple #[.agg #[.int .i64 0, .int .i64 0], .int .i64 2]) (by simp [results, Try.results75, go_sem, hc, hz2]) rfl ⟨rfl, (by repeat (first | exact Below.refl _ _ | assumption | (refine Below.trans ?_ (Below.mono (by assumption) ?_); rotate_left; (first | omega | (simp <;> omega) | simp)) | refine below_drewN ?_ _ | refine Below.drew ?_ | refine Below.alloc ?_ (by first | omega | (simp <;> omega) | simp) _ | refine Below.setCell ?_ (by first | omega | (simp <;> omega) | simp) _))⟩
  · have h1' : ratWithin (lst n d).a = false := by simpa using h1
    have he : fitErr n d = 2 := by simp [fitErr, h1']
    have hv : fitVal n d = ⟨0, 0⟩ := by simp [fitVal, he]
    rw [hv, he]
    clear hv he h1
    go_enter Try.func75, Try.ntmps75
    go_wp2_with (first | (go_at_call 57; refine (within_any _ _).mono ?_; rintro e w' ⟨rfl, rfl⟩) | (go_at_call 58; refine (least_any _ _ (by omega) (by omega) _).mono ?_; rintro e w1 ⟨rfl, hb⟩; obtain ⟨hc, hf⟩ := bcell hb; have hz := hb.size; simp at hz; have hz2 : w.heap.size < w1.heap.size := by omega))
    exact bodyPost_ret (v := .tuple #[.agg #[.int .i64 0, .int .i64 0], .int .i64 2]) (by simp [results, Try.results75, go_sem, hc, hz2]) rfl ⟨rfl, (by repeat (first | exact Below.refl _ _ | assumption | (refine Below.trans ?_ (Below.mono (by assumption) ?_); rotate_left; (first | omega | (simp <;> omega) | simp)) | refine below_drewN ?_ _ | refine Below.drew ?_ | refine Below.alloc ?_ (by first | omega | (simp <;> omega) | simp) _ | refine Below.setCell ?_ (by first | omega | (simp <;> omega) | simp) _))⟩

def opErr (n d : Int) (r s : P2) : Int := if bothErr r s ≠ 0 then bothErr r s else fitErr n d
def opVal (n d : Int) (r s : P2) : P2 := if bothErr r s ≠ 0 then ⟨0, 0⟩ else fitVal n d
theorem add_any (r s : P2) (w : World) :
    Calls Try.prog 38 #[.agg #[.int .i64 r.a, .int .i64 r.b], .agg #[.int .i64 s.a, .int .i64 s.b]] w fun e w' => e = .returned (.tuple #[.agg #[.int .i64 (opVal (r.a * s.b + s.a * r.b) (r.b * s.b) r s).a, .int .i64 (opVal (r.a * s.b + s.a * r.b) (r.b * s.b) r s).b], .int .i64 (opErr (r.a * s.b + s.a * r.b) (r.b * s.b) r s)]) ∧ Below w.heap.size w w' := by
  by_cases h0 : bothErr r s = 0
  · obtain ⟨hr, hs⟩ := both_zero h0
    obtain ⟨r1, r2, r3, r4, _, _⟩ := chk_zero hr
    obtain ⟨s1, s2, s3, s4, _, _⟩ := chk_zero hs
    have m1 := mul_bd r.a s.b (by omega) (by omega)
    have m2 := mul_bd s.a r.b (by omega) (by omega)
    have m3 := mul_bd r.b s.b (by omega) (by omega)
    have m4 : 1 ≤ r.b * s.b := Int.mul_pos (by omega) (by omega)
    have q0 : (bothErr r s != 0) = false := by simp [h0]
    have hv : opVal (r.a * s.b + s.a * r.b) (r.b * s.b) r s = fitVal (r.a * s.b + s.a * r.b) (r.b * s.b) := by simp [opVal, h0]
    have he : opErr (r.a * s.b + s.a * r.b) (r.b * s.b) r s = fitErr (r.a * s.b + s.a * r.b) (r.b * s.b) := by simp [opErr, h0]
    rw [hv, he]
    clear h0 hr hs hv he
    go_enter Try.func38, Try.ntmps38
    go_wp2_with fail
    refine (both_any r s _).mono ?_
    rintro e w1 ⟨rfl, hb1⟩
    obtain ⟨hc1, hf1⟩ := bcell hb1; have hz1 : w.heap.size + 1 + 1 < w1.heap.size := (by have := hb1.size; (try simp at this); omega)
    go_wp2_with fail
    refine (fits_any _ _ (by omega) (by omega) _).mono ?_
    rintro e w2 ⟨rfl, hb2⟩
    obtain ⟨hc2, hf2⟩ := bcell hb2; have hz2 : w.heap.size + 1 + 1 < w2.heap.size := (by have := hb2.size; (try simp at this); omega)
    go_wp2
    exact bodyPost_ret (v := .tuple #[.agg #[.int .i64 (fitVal (r.a * s.b + s.a * r.b) (r.b * s.b)).a, .int .i64 (fitVal (r.a * s.b + s.a * r.b) (r.b * s.b)).b], .int .i64 (fitErr (r.a * s.b + s.a * r.b) (r.b * s.b))]) (by simp [results, Try.results38, go_sem, hc2, hc1, hz1, hz2]) rfl ⟨rfl, (by repeat (first | exact Below.refl _ _ | assumption | (refine Below.trans ?_ (Below.mono (by assumption) ?_); rotate_left; (first | omega | (simp <;> omega) | simp)) | refine below_drewN ?_ _ | refine Below.drew ?_ | refine Below.alloc ?_ (by first | omega | (simp <;> omega) | simp) _ | refine Below.setCell ?_ (by first | omega | (simp <;> omega) | simp) _))⟩
  · have q0 : (bothErr r s != 0) = true := by simp [h0]
    have he : opErr (r.a * s.b + s.a * r.b) (r.b * s.b) r s = bothErr r s := by simp [opErr, h0]
    have hv : opVal (r.a * s.b + s.a * r.b) (r.b * s.b) r s = ⟨0, 0⟩ := by simp [opVal, h0]
    rw [hv, he]
    clear hv he h0
    go_enter Try.func38, Try.ntmps38
    go_wp2_with fail
    refine (both_any r s _).mono ?_
    rintro e w1 ⟨rfl, hb⟩
    obtain ⟨hc, hf⟩ := bcell hb
    have hz := hb.size
    simp at hz
    go_wp2
    exact bodyPost_ret (v := .tuple #[.agg #[.int .i64 0, .int .i64 0], .int .i64 (bothErr r s)]) (by simp [results, Try.results38, go_sem, hc, hz]) rfl ⟨rfl, (by repeat (first | exact Below.refl _ _ | assumption | (refine Below.trans ?_ (Below.mono (by assumption) ?_); rotate_left; (first | omega | (simp <;> omega) | simp)) | refine below_drewN ?_ _ | refine Below.drew ?_ | refine Below.alloc ?_ (by first | omega | (simp <;> omega) | simp) _ | refine Below.setCell ?_ (by first | omega | (simp <;> omega) | simp) _))⟩

theorem mul_any (r s : P2) (w : World) :
    Calls Try.prog 39 #[.agg #[.int .i64 r.a, .int .i64 r.b], .agg #[.int .i64 s.a, .int .i64 s.b]] w fun e w' => e = .returned (.tuple #[.agg #[.int .i64 (opVal (r.a * s.a) (r.b * s.b) r s).a, .int .i64 (opVal (r.a * s.a) (r.b * s.b) r s).b], .int .i64 (opErr (r.a * s.a) (r.b * s.b) r s)]) ∧ Below w.heap.size w w' := by
  by_cases h0 : bothErr r s = 0
  · obtain ⟨hr, hs⟩ := both_zero h0
    obtain ⟨r1, r2, r3, r4, _, _⟩ := chk_zero hr
    obtain ⟨s1, s2, s3, s4, _, _⟩ := chk_zero hs
    have m1 := mul_bd r.a s.b (by omega) (by omega)
    have m2 := mul_bd r.a s.a (by omega) (by omega)
    have m3 := mul_bd r.b s.b (by omega) (by omega)
    have m4 : 1 ≤ r.b * s.b := Int.mul_pos (by omega) (by omega)
    have q0 : (bothErr r s != 0) = false := by simp [h0]
    have hv : opVal (r.a * s.a) (r.b * s.b) r s = fitVal (r.a * s.a) (r.b * s.b) := by simp [opVal, h0]
    have he : opErr (r.a * s.a) (r.b * s.b) r s = fitErr (r.a * s.a) (r.b * s.b) := by simp [opErr, h0]
    rw [hv, he]
    clear h0 hr hs hv he
    go_enter Try.func39, Try.ntmps39
    go_wp2_with fail
    refine (both_any r s _).mono ?_
    rintro e w1 ⟨rfl, hb1⟩
    obtain ⟨hc1, hf1⟩ := bcell hb1; have hz1 : w.heap.size + 1 + 1 < w1.heap.size := (by have := hb1.size; (try simp at this); omega)
    go_wp2_with fail
    refine (fits_any _ _ (by omega) (by omega) _).mono ?_
    rintro e w2 ⟨rfl, hb2⟩
    obtain ⟨hc2, hf2⟩ := bcell hb2; have hz2 : w.heap.size + 1 + 1 < w2.heap.size := (by have := hb2.size; (try simp at this); omega)
    go_wp2
    exact bodyPost_ret (v := .tuple #[.agg #[.int .i64 (fitVal (r.a * s.a) (r.b * s.b)).a, .int .i64 (fitVal (r.a * s.a) (r.b * s.b)).b], .int .i64 (fitErr (r.a * s.a) (r.b * s.b))]) (by simp [results, Try.results39, go_sem, hc2, hc1, hz1, hz2]) rfl ⟨rfl, (by repeat (first | exact Below.refl _ _ | assumption | (refine Below.trans ?_ (Below.mono (by assumption) ?_); rotate_left; (first | omega | (simp <;> omega) | simp)) | refine below_drewN ?_ _ | refine Below.drew ?_ | refine Below.alloc ?_ (by first | omega | (simp <;> omega) | simp) _ | refine Below.setCell ?_ (by first | omega | (simp <;> omega) | simp) _))⟩
  · have q0 : (bothErr r s != 0) = true := by simp [h0]
    have he : opErr (r.a * s.a) (r.b * s.b) r s = bothErr r s := by simp [opErr, h0]
    have hv : opVal (r.a * s.a) (r.b * s.b) r s = ⟨0, 0⟩ := by simp [opVal, h0]
    rw [hv, he]
    clear hv he h0
    go_enter Try.func39, Try.ntmps39
    go_wp2_with fail
    refine (both_any r s _).mono ?_
    rintro e w1 ⟨rfl, hb⟩
    obtain ⟨hc, hf⟩ := bcell hb
    have hz := hb.size
    simp at hz
    go_wp2
    exact bodyPost_ret (v := .tuple #[.agg #[.int .i64 0, .int .i64 0], .int .i64 (bothErr r s)]) (by simp [results, Try.results39, go_sem, hc, hz]) rfl ⟨rfl, (by repeat (first | exact Below.refl _ _ | assumption | (refine Below.trans ?_ (Below.mono (by assumption) ?_); rotate_left; (first | omega | (simp <;> omega) | simp)) | refine below_drewN ?_ _ | refine Below.drew ?_ | refine Below.alloc ?_ (by first | omega | (simp <;> omega) | simp) _ | refine Below.setCell ?_ (by first | omega | (simp <;> omega) | simp) _))⟩
end Go.Proofs.Ytiibhdibeljcjaa
