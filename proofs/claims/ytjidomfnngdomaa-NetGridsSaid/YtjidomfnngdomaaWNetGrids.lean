/-
  The walk of felllaw.NetGrids: it returns true. Conditions: the arguments read as data.
-/
import Derived.Test.YtjidomfnngdomaaNetOf2
import Derived.Test.YtjidomfnngdomaaSameNet
import Derived.Test.YtjidomfnngdomaaOpen
import Derived.Deep.RegionHeld3
namespace Go.Proofs.Ytjidomfnngdomaa
open Go.RowKit
set_option linter.unusedSimpArgs false
set_option linter.unusedVariables false
set_option maxRecDepth 100000 in
set_option maxHeartbeats 2000000 in
theorem walk_NetGrids (x0 y0 : Int) (a0 : Option Addr) (cap0 : Nat) (cs0 : List Int) (w : World) (b0 : Bd x0) (c0 : Bd y0) (l0 : cs0.length ≤ cap0) (m0 : cap0 ≤ maxLen) (r0 : Row encI 1 w w.heap.size a0 cs0) (be0 : ∀ x ∈ cs0, Bd x) :
    Calls Try.prog 3 #[.agg #[.int .i64 x0, .int .i64 y0, .slice a0 cs0.length cap0]] w fun e w' => e = .returned (.bool true) ∧ Below w.heap.size w w' := by
  have hl : cs0.length ≤ 9223372036854775807 := by unfold maxLen at m0; omega
  replace r0 := hide r0
  replace be0 := hide be0
  by_cases h0 : gridErr x0 y0 cs0 = 0
  · obtain ⟨b1, b2, b3, b4, hcl, hcs⟩ := gridErr_ok h0
    have hwh : (cs0.length : Int) = x0 * y0 := hcl
    have hn : cs0.length ≤ 64 := by
      have := Int.mul_le_mul b2 b4 (by omega) (by omega)
      omega
    have hT := hide (fun w B hB hE => netof_ok x0 y0 a0 cap0 cs0 w B hB hE h0)
    have hC := hide (fun w B hB hE => by have := rgrid_any x0 y0 a0 cap0 cs0 w B hB hE hl; rw [h0] at this; exact this)
    have hO := hide (fun w B hB hE => ofgrid_ok x0 y0 a0 cap0 cs0 w B hB hE h0)
    rw [← hwh] at hO
    have hgl := gridNet_len x0 y0 cs0 cs0.length
    generalize gridNet x0 y0 cs0 cs0.length = es at hT hO hgl
    obtain ⟨m, hm⟩ : ∃ m, m = es.length := ⟨_, rfl⟩
    rw [← hm] at hgl
    replace hm := hide hm
    replace hwh := hide hwh
    clear h0 hcl hcs
    go_enter Try.func3, Try.ntmps3
    go_wp2_with fail
    refine (hT.out _ w.heap.size (by simp) (r0.out.below ((by repeat (first | with_reducible exact Below.refl _ _ | with_reducible assumption | with_reducible refine up_drewN ?_ | with_reducible refine up_drew ?_ | (with_reducible refine up_alloc ?_ ?_; rotate_left; (first | omega | (simp <;> omega) | simp)) | (with_reducible refine up_set ?_ ?_; rotate_left; (first | omega | (simp <;> omega) | simp)) | (with_reducible refine Below.trans ?_ (Below.mono (by with_reducible assumption) ?_); rotate_left; (first | omega | (simp <;> omega) | simp)))) : Below w.heap.size w _) (Nat.le_refl _))).mono ?_
    rintro e w1 ⟨v, rfl, own, hb1⟩
    obtain ⟨av, cv, rfl⟩ := own.shape hm.out.symm
    replace own := hide own
    obtain ⟨hc1, hf1⟩ := bcell hb1; have hz1 : w.heap.size < w1.heap.size := (by have := hb1.size; (try simp at this); omega)
    go_wp2_with fail
    refine (hC.out _ w.heap.size (by simp <;> omega) (r0.out.below ((by repeat (first | with_reducible exact Below.refl _ _ | with_reducible assumption | with_reducible refine up_drewN ?_ | with_reducible refine up_drew ?_ | (with_reducible refine up_alloc ?_ ?_; rotate_left; (first | omega | (simp <;> omega) | simp)) | (with_reducible refine up_set ?_ ?_; rotate_left; (first | omega | (simp <;> omega) | simp)) | (with_reducible refine Below.trans ?_ (Below.mono (by with_reducible assumption) ?_); rotate_left; (first | omega | (simp <;> omega) | simp)))) : Below w.heap.size w _) (Nat.le_refl _))).mono ?_
    rintro e w2 ⟨rfl, hb2⟩
    obtain ⟨hc2, hf2⟩ := bcell hb2; have hz2 : w1.heap.size < w2.heap.size := (by have := hb2.size; (try simp at this); omega)
    have hz3 : w.heap.size < w2.heap.size := by omega
    have hB := hide (show Below w.heap.size w w2 from (by repeat (first | with_reducible exact Below.refl _ _ | with_reducible assumption | with_reducible refine up_drewN ?_ | with_reducible refine up_drew ?_ | (with_reducible refine up_alloc ?_ ?_; rotate_left; (first | omega | (simp <;> omega) | simp)) | (with_reducible refine up_set ?_ ?_; rotate_left; (first | omega | (simp <;> omega) | simp)) | (with_reducible refine Below.trans ?_ (Below.mono (by with_reducible assumption) ?_); rotate_left; (first | omega | (simp <;> omega) | simp)))))
    have rh : Row encE 3 w2 w2.heap.size av es := by
      obtain ⟨a', c', hv, hr, _⟩ := own.out.row lenE
      simp only [Value.slice.injEq] at hv
      obtain ⟨rfl, _⟩ := hv
      exact (hr.below ((up_alloc (Below.refl _ _) (Nat.le_refl _)).trans (hb2.mono (by simp)) : Below w1.heap.size w1 w2) (Nat.le_refl _)).mono (by omega)
    replace rh := hide rh
    have ra := hide ((r0.out.below hB.out (Nat.le_refl _)).mono (show w.heap.size ≤ w2.heap.size by omega))
    have key := hide (show ∀ w', Below w2.heap.size w2 w' → (Below w2.heap.size w2 w' ∧ w'.cell? ⟨w.heap.size, 0, none⟩ = some (.int .i64 x0) ∧ w'.cell? ⟨w.heap.size, 1, none⟩ = some (.int .i64 y0) ∧ w'.cell? ⟨w.heap.size, 2, none⟩ = some (.slice a0 cs0.length cap0) ∧ w'.cell? ⟨w1.heap.size, 0, none⟩ = some (.int .i64 (cs0.length : Int)) ∧ w'.cell? ⟨w1.heap.size, 1, none⟩ = some (.slice av m cv)) from by
      intro w' hb
      refine ⟨hb, ?_, ?_, ?_, ?_, ?_⟩
      all_goals rw [hb.cell (by first | assumption | (simp <;> omega))]
      all_goals simp [go_sem, hc2, hc1, hz1, hz2, hz3])
    go_wp2
    clear hc1 hc2 hf1 hf2 hz1 hz2 hz3 hb1 hb2 own r0 hT hC
    go_region_held3 (fun w' => Below w2.heap.size w2 w' ∧ w'.cell? ⟨w.heap.size, 0, none⟩ = some (.int .i64 x0) ∧ w'.cell? ⟨w.heap.size, 1, none⟩ = some (.int .i64 y0) ∧ w'.cell? ⟨w.heap.size, 2, none⟩ = some (.slice a0 cs0.length cap0) ∧ w'.cell? ⟨w1.heap.size, 0, none⟩ = some (.int .i64 (cs0.length : Int)) ∧ w'.cell? ⟨w1.heap.size, 1, none⟩ = some (.slice av m cv)) (first | exact key.out _ (below_drew _) | exact key.out _ (by assumption))
      (first | (go_at_call 18; have hb4 := (‹Below w2.heap.size w2 _ ∧ _› : _ ∧ _).1; refine (hO.out _ w2.heap.size (Below.size hb4) (Row.below ra.out hb4 (Nat.le_refl _))).mono ?_; rintro e w4 ⟨v4, rfl, own4, hb5⟩; obtain ⟨a4, c4, hv4, r4, _⟩ := Own.row own4 lenE; rw [← hm.out] at hv4; subst hv4; have hb6 := below_step hb4 hb5; replace r4 := hide r4; clear own4) | (go_at_call 17; have hb7 := (‹Below w2.heap.size w2 _ ∧ _› : _ ∧ _).1; refine (samenet_len _ _ av a4 cv c4 _ _ m _ hm.out.symm hm.out.symm ((Row.below rh.out hb7 (Nat.le_refl _)).mono (Below.size hb7)) r4.out (by omega) true (by simp)).mono ?_; rintro e w5 ⟨rfl, hb8⟩; have hb9 := below_step hb7 hb8))
    all_goals
      go_wp2
      go_ret
      exact ⟨rfl, below_step hB.out (‹Below w2.heap.size w2 _ ∧ _› : _ ∧ _).1⟩
  · have q0 : (gridErr x0 y0 cs0 != 0) = true := by simp [h0]
    have hT := hide (fun w B hB hE => netof_bad x0 y0 a0 cap0 cs0 w B hB hE hl h0)
    have hC := hide (fun w B hB hE => rgrid_any x0 y0 a0 cap0 cs0 w B hB hE hl)
    clear h0
    go_enter Try.func3, Try.ntmps3
    go_wp2_with fail
    refine (hT.out _ w.heap.size (by simp) (r0.out.below ((by repeat (first | with_reducible exact Below.refl _ _ | with_reducible assumption | with_reducible refine up_drewN ?_ | with_reducible refine up_drew ?_ | (with_reducible refine up_alloc ?_ ?_; rotate_left; (first | omega | (simp <;> omega) | simp)) | (with_reducible refine up_set ?_ ?_; rotate_left; (first | omega | (simp <;> omega) | simp)) | (with_reducible refine Below.trans ?_ (Below.mono (by with_reducible assumption) ?_); rotate_left; (first | omega | (simp <;> omega) | simp)))) : Below w.heap.size w _) (Nat.le_refl _))).mono ?_
    rintro e w1 ⟨v, rfl, own, hb1⟩
    obtain ⟨av, cv, rfl⟩ := own.shape (n := 0) (by simp)
    replace own := hide own
    obtain ⟨hc1, hf1⟩ := bcell hb1; have hz1 : w.heap.size < w1.heap.size := (by have := hb1.size; (try simp at this); omega)
    go_wp2_with fail
    refine (hC.out _ w.heap.size (by simp <;> omega) (r0.out.below ((by repeat (first | with_reducible exact Below.refl _ _ | with_reducible assumption | with_reducible refine up_drewN ?_ | with_reducible refine up_drew ?_ | (with_reducible refine up_alloc ?_ ?_; rotate_left; (first | omega | (simp <;> omega) | simp)) | (with_reducible refine up_set ?_ ?_; rotate_left; (first | omega | (simp <;> omega) | simp)) | (with_reducible refine Below.trans ?_ (Below.mono (by with_reducible assumption) ?_); rotate_left; (first | omega | (simp <;> omega) | simp)))) : Below w.heap.size w _) (Nat.le_refl _))).mono ?_
    rintro e w2 ⟨rfl, hb2⟩
    obtain ⟨hc2, hf2⟩ := bcell hb2; have hz2 : w1.heap.size < w2.heap.size := (by have := hb2.size; (try simp at this); omega)
    have hz3 : w.heap.size < w2.heap.size := by omega
    go_wp2_with fail
    refine (samenet_any 0 0 av none cv 0 [] [] _ (Row.nil _ _ _ _ _) (Row.nil _ _ _ _ _) (by simp) (by simp) true (by simp)).mono ?_
    rintro e w3 ⟨rfl, hb3⟩
    go_wp2
    go_ret
    exact ⟨rfl, (by repeat (first | with_reducible exact Below.refl _ _ | with_reducible assumption | with_reducible refine up_drewN ?_ | with_reducible refine up_drew ?_ | (with_reducible refine up_alloc ?_ ?_; rotate_left; (first | omega | (simp <;> omega) | simp)) | (with_reducible refine up_set ?_ ?_; rotate_left; (first | omega | (simp <;> omega) | simp)) | (with_reducible refine Below.trans ?_ (Below.mono (by with_reducible assumption) ?_); rotate_left; (first | omega | (simp <;> omega) | simp))))⟩
end Go.Proofs.Ytjidomfnngdomaa
