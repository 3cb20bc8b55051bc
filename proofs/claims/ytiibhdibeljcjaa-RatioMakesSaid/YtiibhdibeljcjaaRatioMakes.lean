/-
  Proved here: felllaw.RatioMakes returns true whatever it is given. No conditions.
-/
import Derived.Test.YtiibhdibeljcjaaOpen
import Derived.Test.YtiibhdibeljcjaaRefRatio
import Derived.BigQuiet
import Derived.Deep.RegionHeld3
import Derived.WalkSpells
import Derived.WalkLawsBesides
namespace Go.Proofs.Ytiibhdibeljcjaa
open Go.ChangeShapes Go.WideShapes Go.ChangeAt Go.RowKit
set_option linter.unusedVariables false
set_option linter.unusedSimpArgs false

theorem chk_rchk (r : P2) : chk r = rchk r := by
  by_cases h : r.b < 1 ∨ ratWithin r.a = false ∨ ratWithin r.b = false
  · have e1 : mkErr r.a r.b = 1 := by simp [mkErr, h]
    have e2 : chk r = 3 := by simp [chk, e1]
    rw [e2]
    simp only [rchk]
    rw [if_pos]
    rcases h with h | h | h <;> simp [h]
  · have e1 : mkErr r.a r.b = 0 := by simp only [mkErr]; rw [if_neg h]
    have e2 : mkVal r.a r.b = lst r.a r.b := by simp only [mkVal]; rw [if_neg h]
    simp only [not_or, Bool.not_eq_false] at h
    have hg := gcdI_pos r.a r.b (by omega)
    simp only [chk, rchk, e1, e2, lst, h.2.1, h.2.2]
    by_cases g1 : gcdI r.a r.b = 1
    · simp [g1]; omega
    · have hd : (gcdI r.a r.b) ∣ r.b := by unfold gcdI; exact Int.gcd_dvd_right ..
      have : r.b / gcdI r.a r.b ≠ r.b := by
        intro hh
        have h2 := Int.ediv_mul_cancel hd
        rw [hh] at h2
        have h3 : r.b * gcdI r.a r.b = r.b * 1 := by omega
        have := Int.eq_of_mul_eq_mul_left (by omega) h3
        exact g1 this
      simp [this, g1]

theorem walk_RatioMakes (x0 : Int) (x1 : Int) (x2 : P2) (w : World) (b0 : Bd x0) (b1 : Bd x1) (b2 : Bd x2.a) (c2 : Bd x2.b) :
    Calls Try.prog 4 #[.int .i64 x0, .int .i64 x1, .agg #[.int .i64 x2.a, .int .i64 x2.b]] w fun e w' => e = .returned (.bool true) ∧ Below w.heap.size w w' := by
  go_enter Try.func4, Try.ntmps4
  go_wp2_with fail
  refine (make_any x0 x1 _).mono ?_
  rintro e w1 ⟨rfl, hb1⟩
  obtain ⟨hc1, hf1⟩ := bcell hb1; have hz1 : w.heap.size < w1.heap.size := (by have := hb1.size; (try simp at this); omega)
  go_wp2_with fail
  refine (made_any x0 x1 _).mono ?_
  rintro e w2 ⟨rfl, hb2⟩
  obtain ⟨hc2, hf2⟩ := bcell hb2; have hz2 : w.heap.size + 1 < w2.heap.size := (by have := hb2.size; (try simp at this); omega)
  go_wp2_with fail
  have hsz1 : w1.heap.size < w2.heap.size := by have := hb2.size; simp at this; omega
  have key : Hid (∀ w3 : World, w3 = w2.alloc (.cells #[.int .i64 (mkVal x0 x1).a, .int .i64 (mkVal x0 x1).b] 27) → ∀ w', Below w3.heap.size w3 w' → (Below w3.heap.size w3 w' ∧ w'.cell? ⟨w.heap.size, 0, none⟩ = some (.int .i64 x2.a) ∧ w'.cell? ⟨w.heap.size, 1, none⟩ = some (.int .i64 x2.b) ∧ w'.cell? ⟨w1.heap.size, 0, none⟩ = some (.int .i64 (mkVal x0 x1).a) ∧ w'.cell? ⟨w1.heap.size, 1, none⟩ = some (.int .i64 (mkVal x0 x1).b) ∧ w'.cell? ⟨w2.heap.size, 0, none⟩ = some (.int .i64 (mkVal x0 x1).a) ∧ w'.cell? ⟨w2.heap.size, 1, none⟩ = some (.int .i64 (mkVal x0 x1).b))) := by
    intro w3 h3 w' hb
    subst h3
    have hz3 : w.heap.size < w2.heap.size := by omega
    refine ⟨hb, ?_, ?_, ?_, ?_, ?_, ?_⟩
    all_goals rw [hb.cell (by simp <;> omega)]
    all_goals simp [go_sem, hc2, hc1, hz1, hz2, hz3, hsz1]
  have hq := hide (chk_rchk x2)
  have hB : Below w.heap.size w (w2.alloc (.cells #[.int .i64 (mkVal x0 x1).a, .int .i64 (mkVal x0 x1).b] 27)) := (by repeat (first | exact Below.refl _ _ | assumption | (refine Below.trans ?_ (Below.mono (by assumption) ?_); rotate_left; (first | omega | (simp <;> omega) | simp)) | refine below_drewN ?_ _ | refine Below.drew ?_ | refine Below.alloc ?_ (by first | omega | (simp <;> omega) | simp) _ | refine Below.setCell ?_ (by first | omega | (simp <;> omega) | simp) _))
  obtain ⟨w3, h3⟩ : ∃ w3, w3 = w2.alloc (.cells #[.int .i64 (mkVal x0 x1).a, .int .i64 (mkVal x0 x1).b] 27) := ⟨_, rfl⟩
  have key3 := hide (key.out w3 h3)
  rw [← h3] at hB
  simp only [← h3]
  clear key hc1 hc2 hf1 hf2 hz1 hz2 hb1 hb2 h3 hsz1
  go_region_held3 (fun w' => Below w3.heap.size w3 w' ∧ w'.cell? ⟨w.heap.size, 0, none⟩ = some (.int .i64 x2.a) ∧ w'.cell? ⟨w.heap.size, 1, none⟩ = some (.int .i64 x2.b) ∧ w'.cell? ⟨w1.heap.size, 0, none⟩ = some (.int .i64 (mkVal x0 x1).a) ∧ w'.cell? ⟨w1.heap.size, 1, none⟩ = some (.int .i64 (mkVal x0 x1).b) ∧ w'.cell? ⟨w2.heap.size, 0, none⟩ = some (.int .i64 (mkVal x0 x1).a) ∧ w'.cell? ⟨w2.heap.size, 1, none⟩ = some (.int .i64 (mkVal x0 x1).b)) (first | exact key3.out _ (below_drew _) | exact key3.out _ (by assumption))
    (first | (go_at_call 17; refine (chk_any x2 _).mono ?_; rintro e w4 ⟨rfl, hb4⟩; have hb5 := below_step (‹_ ∧ _› : _ ∧ _).1 hb4) | (go_at_call 18; refine (rchk_any x2 _).mono ?_; rintro e w4 ⟨rfl, hb4⟩; have hb5 := below_step (‹_ ∧ _› : _ ∧ _).1 hb4; rw [hq.out]))
  all_goals
    go_wp2
    go_ret
    exact ⟨ret_bool (by first | rfl | simp), below_step hB (‹_ ∧ _› : _ ∧ _).1⟩

set_option maxRecDepth 100000 in
theorem lifted_RatioMakes (os : Os) (started : os.Started) (H : Type) (enc : TypeId × Value → H) :
    ReturnsInHanded {} Try.checked os 4 .any (Rows.ratioMakesSpec.pre6 enc Try.prog Try.f4 Rows.ratioMakesRow.domain false) (Rows.ratioMakesSpec.post enc Try.prog Try.f4 false true false false) := by
  refine returnsInHanded_of_change (C := Try.checked) own started (by kernel_rfl) Try.func4
    (ChangeSpec.witness6 (enc := enc) (C := Try.checked) false ⟨#[], #[.int .i64 0, .int .i64 0, .agg #[.int .i64 0, .int .i64 0]], []⟩ 8 (by kernel_rfl) (by kernel_rfl) (by kernel_rfl) (by kernel_rfl)) ?_
  intro W base args ds gs before hval0 hW hcnd _
  have hval : ∀ (j : Nat) t v, Try.f4.params[j]? = some t → args[j]? = some v → Value.okWide Try.prog W .any base t v := hval0
  have hW' := hW
  obtain ⟨p, q, hA0, hV, rfl, hfz, hnd⟩ := hW
  have hA : DataW.TrodAll enc Try.prog W 0 (fun _ => true) true Try.f4.params.toList args.toList ds p := hA0
  rw [Try.params4] at hA hval
  obtain ⟨v0, vs0, d0, ds0, p0, q0, hargs, rfl, rfl, h0, r0⟩ := trodAll_cons hA
  obtain ⟨v1, vs1, d1, ds1, p1, q1, rfl, rfl, rfl, h1, r1⟩ := trodAll_cons r0
  obtain ⟨v2, vs2, d2, ds2, p2, q2, rfl, rfl, rfl, h2, r2⟩ := trodAll_cons r1
  obtain ⟨rfl, rfl, rfl⟩ := trodAll_nil r2
  obtain rfl : args = #[v0, v1, v2] := by cases args; simp_all
  obtain ⟨rfl, rfl⟩ := trodVars_none hV
  have k0 := h0
  have lt0 : ∀ x ∈ p0, x.block < W.heap.size := by obtain ⟨m, hm⟩ := k0; exact DataW.trod_lt m _ _ _ hm
  have k1 := h1
  have lt1 : ∀ x ∈ p1, x.block < W.heap.size := by obtain ⟨m, hm⟩ := k1; exact DataW.trod_lt m _ _ _ hm
  have k2 := h2
  have lt2 : ∀ x ∈ p2, x.block < W.heap.size := by obtain ⟨m, hm⟩ := k2; exact DataW.trod_lt m _ _ _ hm
  obtain ⟨x0, rfl, b0⟩ := openT_int Try.underlying3 (hval 0 3 v0 rfl rfl) h0
  obtain ⟨x1, rfl, b1⟩ := openT_int Try.underlying3 (hval 1 3 v1 rfl rfl) h1
  obtain ⟨x2, rfl, b2, c2⟩ := read_p2 Try.underlying27 (by kernel_rfl) (by kernel_rfl) Try.underlying3 Try.underlying3 (hval 2 27 v2 rfl rfl) h2
  clear hA0 hval0
  refine (walk_RatioMakes x0 x1 x2 W b0 b1 b2 c2).mono fun e W' ⟨he, bel⟩ => ?_
  subst he
  exact ⟨_, rfl, _, _, _, [], _, [], hW', trodAll_mk1 (shut_bool Try.underlying4 _), (trodAll_cons_mk (Below.trod laidOut (by kernel_rfl) (of_decide_eq_true (by kernel_rfl)) k0 bel lt0) (trodAll_cons_mk (Below.trod laidOut (by kernel_rfl) (of_decide_eq_true (by kernel_rfl)) k1 bel lt1) (trodAll_cons_mk (Below.trod laidOut (by kernel_rfl) (of_decide_eq_true (by kernel_rfl)) k2 bel lt2) trodAll_mk0))), rfl, bel.frame _, fun h => by cases h⟩

theorem over_RatioMakes : Rows.ratioMakesRow.holds Try.pinned (OpenSpec.ofChange Rows.ratioMakesSpec) :=
  OpenClaim.holds_of_wide 4 Try.f4 rfl rfl rfl rfl rfl rfl rfl ⟨rfl, rfl, rfl, rfl, rfl⟩ rfl rfl rfl rfl rfl (by kernel_rfl) Try.func4 (by kernel_rfl)
    (of_decide_eq_true (by kernel_rfl)) (by unfold Func.isWrapper; first | (rw [if_pos (by decide +kernel)]; kernel_rfl) | (rw [if_neg (by decide +kernel)]; exact ⟨rfl, rfl⟩))
    (fun os started H enc _ => lifted_RatioMakes os started H enc)

/-- The given statement. -/
theorem proved_RatioMakes : Rows.RatioMakesSaid := over_RatioMakes
#print axioms proved_RatioMakes

end Go.Proofs.Ytiibhdibeljcjaa
