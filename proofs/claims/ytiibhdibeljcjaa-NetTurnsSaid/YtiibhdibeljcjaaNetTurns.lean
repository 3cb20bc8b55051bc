/-
  Proved here: felllaw.NetTurns returns true whatever it is given. No conditions.
-/
import Derived.Test.YtiibhdibeljcjaaOpen
import Derived.Test.YtiibhdibeljcjaaRTurn
import Derived.Test.YtiibhdibeljcjaaSameNet
import Derived.Deep.RegionHeld3
namespace Go.Proofs.Ytiibhdibeljcjaa
open Go.ChangeShapes Go.WideShapes Go.ChangeAt Go.RowKit
set_option linter.unusedSimpArgs false
set_option linter.unusedVariables false

theorem walk_NetTurns (x0 : Int) (a0 : Option Addr) (cap0 : Nat) (es0 : List Ed) (w : World) (b0 : Bd x0) (l0 : es0.length ≤ cap0) (m0 : cap0 ≤ maxLen) (r0 : Row encE 3 w w.heap.size a0 es0) (be0 : ∀ x ∈ es0, BdE x) :
    Calls Try.prog 7 #[.agg #[.int .i64 x0, .slice a0 es0.length cap0]] w fun e w' => e = .returned (.bool true) ∧ Below w.heap.size w w' := by
  have hl : es0.length ≤ 9223372036854775807 := by unfold maxLen at m0; omega
  replace r0 := hide r0
  have hl := hl
  by_cases h0 : netErr x0 es0 = 0
  · obtain ⟨n1, n2, n3, _⟩ := netErr_ok h0
    have hT := fun w B hB hE => turn_any x0 a0 cap0 es0 w B hB hE hl
    have hC := fun w B hB hE => rnet_any x0 a0 cap0 es0 w B hB hE hl
    simp only [h0, if_true] at hT hC
    replace hT := hide hT
    replace hC := hide hC
    clear h0
    go_enter Try.func7, Try.ntmps7
    go_wp2_with fail
    refine (hT.out _ w.heap.size (by simp) (r0.out.below ((by repeat (first | with_reducible exact Below.refl _ _ | with_reducible assumption | with_reducible refine up_drewN ?_ | with_reducible refine up_drew ?_ | (with_reducible refine up_alloc ?_ ?_; rotate_left; (first | omega | (simp <;> omega) | simp)) | (with_reducible refine up_set ?_ ?_; rotate_left; (first | omega | (simp <;> omega) | simp)) | (with_reducible refine Below.trans ?_ (Below.mono (by with_reducible assumption) ?_); rotate_left; (first | omega | (simp <;> omega) | simp)))) : Below w.heap.size w _) (Nat.le_refl _))).mono ?_
    rintro e w1 ⟨M, v, rfl, own, rfl, hb1⟩
    obtain ⟨av, cv, rfl⟩ := own.shape (n := es0.length) (by simp)
    replace own := hide own
    obtain ⟨hc1, hf1⟩ := bcell hb1; have hz1 : w.heap.size < w1.heap.size := (by have := hb1.size; (try simp at this); omega)
    go_wp2_with fail
    refine (hC.out _ w.heap.size (by simp <;> omega) (r0.out.below ((by repeat (first | with_reducible exact Below.refl _ _ | with_reducible assumption | with_reducible refine up_drewN ?_ | with_reducible refine up_drew ?_ | (with_reducible refine up_alloc ?_ ?_; rotate_left; (first | omega | (simp <;> omega) | simp)) | (with_reducible refine up_set ?_ ?_; rotate_left; (first | omega | (simp <;> omega) | simp)) | (with_reducible refine Below.trans ?_ (Below.mono (by with_reducible assumption) ?_); rotate_left; (first | omega | (simp <;> omega) | simp)))) : Below w.heap.size w _) (Nat.le_refl _))).mono ?_
    rintro e w2 ⟨rfl, hb2⟩
    obtain ⟨hc2, hf2⟩ := bcell hb2; have hz2 : w1.heap.size < w2.heap.size := (by have := hb2.size; (try simp at this); omega)
    have hz3 : w.heap.size < w2.heap.size := by omega
    go_wp2_with fail
    have hB : Below w.heap.size w w2 := (by repeat (first | with_reducible exact Below.refl _ _ | with_reducible assumption | with_reducible refine up_drewN ?_ | with_reducible refine up_drew ?_ | (with_reducible refine up_alloc ?_ ?_; rotate_left; (first | omega | (simp <;> omega) | simp)) | (with_reducible refine up_set ?_ ?_; rotate_left; (first | omega | (simp <;> omega) | simp)) | (with_reducible refine Below.trans ?_ (Below.mono (by with_reducible assumption) ?_); rotate_left; (first | omega | (simp <;> omega) | simp))))
    have rh : Row encE 3 w2 w2.heap.size av (es0.map flip) := by
      obtain ⟨a', c', hv, hr, _⟩ := own.out.row lenE
      simp only [Value.slice.injEq] at hv
      obtain ⟨rfl, _⟩ := hv
      exact (hr.below ((up_alloc (Below.refl _ _) (Nat.le_refl _)).trans (hb2.mono (by simp)) : Below w1.heap.size w1 w2) (Nat.le_refl _)).mono (by omega)
    replace rh := hide rh
    have ra : Row encE 3 w2 w2.heap.size a0 es0 := (r0.out.below hB (Nat.le_refl _)).mono (by omega)
    replace ra := hide ra
    have key := hide (show ∀ w', Below w2.heap.size w2 w' → (Below w2.heap.size w2 w' ∧ w'.cell? ⟨w.heap.size, 0, none⟩ = some (.int .i64 M) ∧ w'.cell? ⟨w.heap.size, 1, none⟩ = some (.slice a0 es0.length cap0) ∧ w'.cell? ⟨w1.heap.size, 0, none⟩ = some (.int .i64 M) ∧ w'.cell? ⟨w1.heap.size, 1, none⟩ = some (.slice av es0.length cv)) from by
      intro w' hb
      refine ⟨hb, ?_, ?_, ?_, ?_⟩
      all_goals rw [hb.cell (by first | assumption | (simp <;> omega))]
      all_goals simp [go_sem, hc2, hc1, hz1, hz2, hz3])
    clear hc1 hc2 hf1 hf2 hz1 hz2 hz3 hb1 hb2 own r0 hT hC be0
    go_region_held3 (fun w' => Below w2.heap.size w2 w' ∧ w'.cell? ⟨w.heap.size, 0, none⟩ = some (.int .i64 M) ∧ w'.cell? ⟨w.heap.size, 1, none⟩ = some (.slice a0 es0.length cap0) ∧ w'.cell? ⟨w1.heap.size, 0, none⟩ = some (.int .i64 M) ∧ w'.cell? ⟨w1.heap.size, 1, none⟩ = some (.slice av es0.length cv)) (first | exact key.out _ (below_drew _) | exact key.out _ (by assumption))
      (first | (go_at_call 27; have hb4 := (‹_ ∧ _› : _ ∧ _).1; refine (rturned_any M a0 cap0 es0 _ w2.heap.size (Below.size hb4) (Row.below ra.out hb4 (Nat.le_refl _)) n3).mono ?_; rintro e w4 ⟨v4, rfl, own4, hb5⟩; obtain ⟨a4, c4, hv4, r4, _⟩ := Own.row own4 lenE; rw [List.length_map] at hv4; subst hv4; have hb6 := below_step hb4 hb5; replace r4 := hide r4; clear own4) | (go_at_call 26; have hb7 := (‹_ ∧ _› : _ ∧ _).1; refine (samenet_len M M av a4 cv c4 _ _ es0.length _ (by simp) (by simp) ((Row.below rh.out hb7 (Nat.le_refl _)).mono (Below.size hb7)) r4.out hl true (by simp)).mono ?_; rintro e w5 ⟨rfl, hb8⟩; have hb9 := below_step hb7 hb8))
    all_goals
      go_wp2
      go_ret
      exact ⟨rfl, below_step hB (‹_ ∧ _› : _ ∧ _).1⟩
  · have hT := fun w B hB hE => turn_any x0 a0 cap0 es0 w B hB hE hl
    have hC := fun w B hB hE => rnet_any x0 a0 cap0 es0 w B hB hE hl
    simp only [h0, if_false] at hT hC
    have q0 : (netErr x0 es0 != 0) = true := by simp [h0]
    replace hT := hide hT
    replace hC := hide hC
    clear h0
    go_enter Try.func7, Try.ntmps7
    go_wp2_with fail
    refine (hT.out _ w.heap.size (by simp) (r0.out.below ((by repeat (first | with_reducible exact Below.refl _ _ | with_reducible assumption | with_reducible refine up_drewN ?_ | with_reducible refine up_drew ?_ | (with_reducible refine up_alloc ?_ ?_; rotate_left; (first | omega | (simp <;> omega) | simp)) | (with_reducible refine up_set ?_ ?_; rotate_left; (first | omega | (simp <;> omega) | simp)) | (with_reducible refine Below.trans ?_ (Below.mono (by with_reducible assumption) ?_); rotate_left; (first | omega | (simp <;> omega) | simp)))) : Below w.heap.size w _) (Nat.le_refl _))).mono ?_
    rintro e w1 ⟨M, v, rfl, own, rfl, hb1⟩
    obtain ⟨av, cv, rfl⟩ := own.shape (n := 0) (by simp)
    replace own := hide own
    obtain ⟨hc1, hf1⟩ := bcell hb1; have hz1 : w.heap.size < w1.heap.size := (by have := hb1.size; (try simp at this); omega)
    go_wp2_with fail
    refine (hC.out _ w.heap.size (by simp <;> omega) (r0.out.below ((by repeat (first | with_reducible exact Below.refl _ _ | with_reducible assumption | with_reducible refine up_drewN ?_ | with_reducible refine up_drew ?_ | (with_reducible refine up_alloc ?_ ?_; rotate_left; (first | omega | (simp <;> omega) | simp)) | (with_reducible refine up_set ?_ ?_; rotate_left; (first | omega | (simp <;> omega) | simp)) | (with_reducible refine Below.trans ?_ (Below.mono (by with_reducible assumption) ?_); rotate_left; (first | omega | (simp <;> omega) | simp)))) : Below w.heap.size w _) (Nat.le_refl _))).mono ?_
    rintro e w2 ⟨rfl, hb2⟩
    obtain ⟨hc2, hf2⟩ := bcell hb2; have hz2 : w1.heap.size < w2.heap.size := (by have := hb2.size; (try simp at this); omega)
    have hz3 : w.heap.size < w2.heap.size := by omega
    go_wp2_with fail
    refine (samenet_any 0 0 av none cv 0 [] [] _ (Row.nil _ _ _ _ _) (Row.nil _ _ _ _ _) (by simp) (by simp) true (by simp)).mono ?_
    rintro e w3 ⟨rfl, hb3⟩
    go_wp2
    go_ret
    exact ⟨rfl, (by repeat (first | with_reducible exact Below.refl _ _ | with_reducible assumption | with_reducible refine up_drewN ?_ | with_reducible refine up_drew ?_ | (with_reducible refine up_alloc ?_ ?_; rotate_left; (first | omega | (simp <;> omega) | simp)) | (with_reducible refine up_set ?_ ?_; rotate_left; (first | omega | (simp <;> omega) | simp)) | (with_reducible refine Below.trans ?_ (Below.mono (by with_reducible assumption) ?_); rotate_left; (first | omega | (simp <;> omega) | simp))))⟩

set_option maxRecDepth 100000 in
theorem lifted_NetTurns (os : Os) (started : os.Started) (H : Type) (enc : TypeId × Value → H) :
    ReturnsInHanded {} Try.checked os 7 .any (Rows.netTurnsSpec.pre6 enc Try.prog Try.f7 Rows.netTurnsRow.domain false) (Rows.netTurnsSpec.post enc Try.prog Try.f7 false true false false) := by
  refine returnsInHanded_of_change (C := Try.checked) own started (by kernel_rfl) Try.func7
    (ChangeSpec.witness6 (enc := enc) (C := Try.checked) false ⟨#[], #[.agg #[.int .i64 0, .slice none 0 0]], []⟩ 8 (by kernel_rfl) (by kernel_rfl) (by kernel_rfl) (by kernel_rfl)) ?_
  intro W base args ds gs before hval0 hW hcnd _
  have hval : ∀ (j : Nat) t v, Try.f7.params[j]? = some t → args[j]? = some v → Value.okWide Try.prog W .any base t v := hval0
  have hW' := hW
  obtain ⟨p, q, hA0, hV, rfl, hfz, hnd⟩ := hW
  have hA : DataW.TrodAll enc Try.prog W 0 (fun _ => true) true Try.f7.params.toList args.toList ds p := hA0
  rw [Try.params7] at hA hval
  obtain ⟨v0, vs0, d0, ds0, p0, q0, hargs, rfl, rfl, h0, r0⟩ := trodAll_cons hA
  obtain ⟨rfl, rfl, rfl⟩ := trodAll_nil r0
  obtain rfl : args = #[v0] := by cases args; simp_all
  obtain ⟨rfl, rfl⟩ := trodVars_none hV
  have k0 := h0
  have lt0 : ∀ x ∈ p0, x.block < W.heap.size := by obtain ⟨m, hm⟩ := k0; exact DataW.trod_lt m _ _ _ hm
  obtain ⟨x0, a0, cap0, es0, rfl, b0, l0, m0, r0, be0⟩ := openT_net (P := Try.prog) Try.underlying44 (by kernel_rfl) (by kernel_rfl) Try.underlying3 Try.underlying42 (by kernel_rfl) Try.underlying79 (by kernel_rfl) Try.underlying3 Try.underlying3 Try.underlying3 (hval 0 44 v0 rfl rfl) h0
  clear hA0 hval0
  refine (walk_NetTurns x0 a0 cap0 es0 W b0 l0 m0 r0 be0).mono fun e W' ⟨he, bel⟩ => ?_
  subst he
  exact ⟨_, rfl, _, _, _, [], _, [], hW', trodAll_mk1 (shut_bool Try.underlying4 _), (trodAll_cons_mk (Below.trod laidOut (by kernel_rfl) (of_decide_eq_true (by kernel_rfl)) k0 bel lt0) trodAll_mk0), rfl, bel.frame _, fun h => by cases h⟩

theorem over_NetTurns : Rows.netTurnsRow.holds Try.pinned (OpenSpec.ofChange Rows.netTurnsSpec) :=
  OpenClaim.holds_of_wide 7 Try.f7 rfl rfl rfl rfl rfl rfl rfl ⟨rfl, rfl, rfl, rfl, rfl⟩ rfl rfl rfl rfl rfl (by kernel_rfl) Try.func7 (by kernel_rfl)
    (of_decide_eq_true (by kernel_rfl)) (by unfold Func.isWrapper; first | (rw [if_pos (by decide +kernel)]; kernel_rfl) | (rw [if_neg (by decide +kernel)]; exact ⟨rfl, rfl⟩))
    (fun os started H enc _ => lifted_NetTurns os started H enc)

/-- The given statement. -/
theorem proved_NetTurns : Rows.NetTurnsSaid := over_NetTurns
#print axioms proved_NetTurns

end Go.Proofs.Ytiibhdibeljcjaa
