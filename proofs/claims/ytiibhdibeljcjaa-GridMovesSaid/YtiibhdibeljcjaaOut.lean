/-
  What net.Out returns. No condition but that the slice reads.
-/
import Derived.Test.YtiibhdibeljcjaaOuts
namespace Go.Proofs.Ytiibhdibeljcjaa
open Go.RowKit
set_option linter.unusedSimpArgs false
set_option linter.unusedVariables false

def RowRet {α : Type} (enc : α → List Value) (sz : Nat) (xs : List α) (err : Int) (w : World) (e : Ending) (w' : World) : Prop := ∃ av c, e = .returned (.tuple #[.slice av xs.length c, .int .i64 err]) ∧ Row enc sz w' w'.heap.size av xs ∧ Below w.heap.size w w'

theorem out_any (N v : Int) (a : Option Addr) (cap : Nat) (es : List Ed) (w : World) (B : Nat) (hB : B ≤ w.heap.size) (hE : Row encE 3 w B a es) (hl : es.length ≤ 9223372036854775807) (xs : List Int) (err : Int)
    (hx : (netErr N es ≠ 0 ∧ err = netErr N es ∧ xs = []) ∨ (netErr N es = 0 ∧ (v < 0 ∨ v ≥ N) ∧ err = 1 ∧ xs = []) ∨ (netErr N es = 0 ∧ 0 ≤ v ∧ v < N ∧ err = 0 ∧ xs = outIdx es v.toNat es.length)) :
    Calls Try.prog 53 #[.agg #[.int .i64 N, .slice a es.length cap], .int .i64 v] w (RowRet encI 1 xs err w) := by
  replace hE := hide hE
  have hC := fun w hB hE => check_any N a cap es w B hB hE hl
  rcases hx with ⟨h0, rfl, rfl⟩ | ⟨h0, hv, rfl, rfl⟩ | ⟨h0, v0, v1, rfl, rfl⟩
  · have q0 : (netErr N es != 0) = true := by simp [h0]
    replace hC := hide hC
    clear h0
    go_enter Try.func53, Try.ntmps53
    go_wp2_with fail
    refine (hC.out _ (by simp; omega) (hE.out.below ((by repeat (first | with_reducible exact Below.refl _ _ | with_reducible assumption | with_reducible refine up_drewN ?_ | with_reducible refine up_drew ?_ | (with_reducible refine up_alloc ?_ ?_; rotate_left; (first | omega | (simp <;> omega) | simp)) | (with_reducible refine up_set ?_ ?_; rotate_left; (first | omega | (simp <;> omega) | simp)) | (with_reducible refine Below.trans ?_ (Below.mono (by with_reducible assumption) ?_); rotate_left; (first | omega | (simp <;> omega) | simp)))) : Below w.heap.size w _) hB)).mono ?_
    rintro e w1 ⟨rfl, hb1⟩
    go_wp2
    go_ret2
    exact ⟨none, 0, rfl, Row.nil _ _ _ _ _, (by repeat (first | with_reducible exact Below.refl _ _ | with_reducible assumption | with_reducible refine up_drewN ?_ | with_reducible refine up_drew ?_ | (with_reducible refine up_alloc ?_ ?_; rotate_left; (first | omega | (simp <;> omega) | simp)) | (with_reducible refine up_set ?_ ?_; rotate_left; (first | omega | (simp <;> omega) | simp)) | (with_reducible refine Below.trans ?_ (Below.mono (by with_reducible assumption) ?_); rotate_left; (first | omega | (simp <;> omega) | simp))))⟩
  · rw [h0] at hC
    replace hC := hide hC
    clear h0
    go_enter Try.func53, Try.ntmps53
    go_wp2_with fail
    refine (hC.out _ (by simp; omega) (hE.out.below ((by repeat (first | with_reducible exact Below.refl _ _ | with_reducible assumption | with_reducible refine up_drewN ?_ | with_reducible refine up_drew ?_ | (with_reducible refine up_alloc ?_ ?_; rotate_left; (first | omega | (simp <;> omega) | simp)) | (with_reducible refine up_set ?_ ?_; rotate_left; (first | omega | (simp <;> omega) | simp)) | (with_reducible refine Below.trans ?_ (Below.mono (by with_reducible assumption) ?_); rotate_left; (first | omega | (simp <;> omega) | simp)))) : Below w.heap.size w _) hB)).mono ?_
    rintro e w1 ⟨rfl, hb1⟩
    obtain ⟨hc1, hf1⟩ := bcell hb1; have hz1 : w.heap.size < w1.heap.size := (by have := hb1.size; (try simp at this); omega)
    go_wp2_with fail
    all_goals first
      | (go_ret2
         exact ⟨none, 0, rfl, Row.nil _ _ _ _ _, (by repeat (first | with_reducible exact Below.refl _ _ | with_reducible assumption | with_reducible refine up_drewN ?_ | with_reducible refine up_drew ?_ | (with_reducible refine up_alloc ?_ ?_; rotate_left; (first | omega | (simp <;> omega) | simp)) | (with_reducible refine up_set ?_ ?_; rotate_left; (first | omega | (simp <;> omega) | simp)) | (with_reducible refine Below.trans ?_ (Below.mono (by with_reducible assumption) ?_); rotate_left; (first | omega | (simp <;> omega) | simp))))⟩)
      | (exfalso; omega)
  · obtain ⟨n1, n2, n3, n4⟩ := netErr_ok h0
    rw [h0] at hC
    replace hC := hide hC
    obtain ⟨n, rfl⟩ := Int.eq_ofNat_of_zero_le (show 0 ≤ N by omega)
    obtain ⟨u, rfl⟩ := Int.eq_ofNat_of_zero_le v0
    have hO := hide (fun w B hB hE => outs_any n a cap es w B hB hE (by omega) n3 (fun e he => ⟨(n4 e he).1, (n4 e he).2.1⟩))
    have hun : u < n := by omega
    clear h0 n4
    go_enter Try.func53, Try.ntmps53
    go_wp2_with fail
    refine (hC.out _ (by simp; omega) (hE.out.below ((by repeat (first | with_reducible exact Below.refl _ _ | with_reducible assumption | with_reducible refine up_drewN ?_ | with_reducible refine up_drew ?_ | (with_reducible refine up_alloc ?_ ?_; rotate_left; (first | omega | (simp <;> omega) | simp)) | (with_reducible refine up_set ?_ ?_; rotate_left; (first | omega | (simp <;> omega) | simp)) | (with_reducible refine Below.trans ?_ (Below.mono (by with_reducible assumption) ?_); rotate_left; (first | omega | (simp <;> omega) | simp)))) : Below w.heap.size w _) hB)).mono ?_
    rintro e w1 ⟨rfl, hb1⟩
    obtain ⟨hc1, hf1⟩ := bcell hb1; have hz1 : w.heap.size < w1.heap.size := (by have := hb1.size; (try simp at this); omega)
    go_wp2_with fail
    refine (hO.out _ B (by omega) (hE.out.below ((by repeat (first | with_reducible exact Below.refl _ _ | with_reducible assumption | with_reducible refine up_drewN ?_ | with_reducible refine up_drew ?_ | (with_reducible refine up_alloc ?_ ?_; rotate_left; (first | omega | (simp <;> omega) | simp)) | (with_reducible refine up_set ?_ ?_; rotate_left; (first | omega | (simp <;> omega) | simp)) | (with_reducible refine Below.trans ?_ (Below.mono (by with_reducible assumption) ?_); rotate_left; (first | omega | (simp <;> omega) | simp)))) : Below w.heap.size w _) hB)).mono ?_
    rintro e w2 ⟨g, rfl, own, hb2⟩
    have hul : u < (outRows n es es.length).length := by rw [outRows_len]; exact hun
    obtain ⟨av, cv, r0, rown, _⟩ := own.at u hul
    rw [outRows_get] at r0 rown
    replace rown := hide rown
    replace own := hide own
    clear hul
    go_wp2
    go_ret2
    refine ⟨av, cv, by simp, ?_, (by repeat (first | with_reducible exact Below.refl _ _ | with_reducible assumption | with_reducible refine up_drewN ?_ | with_reducible refine up_drew ?_ | (with_reducible refine up_alloc ?_ ?_; rotate_left; (first | omega | (simp <;> omega) | simp)) | (with_reducible refine up_set ?_ ?_; rotate_left; (first | omega | (simp <;> omega) | simp)) | (with_reducible refine Below.trans ?_ (Below.mono (by with_reducible assumption) ?_); rotate_left; (first | omega | (simp <;> omega) | simp))))⟩
    obtain ⟨a', c', hv, hr, _⟩ := rown.out.row lenI
    simp only [Value.slice.injEq] at hv
    obtain ⟨rfl, _⟩ := hv
    simpa using hr

end Go.Proofs.Ytiibhdibeljcjaa
