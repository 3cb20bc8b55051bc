/-
  What net.Turned, net.Turn and the reference's Turned return. Conditions: as each theorem says.
-/
import Derived.Test.YtcehdpeeaogpiaaNetL
import Derived.Test.YtcehdpeeaogpiaaBase
import Derived.BigQuiet
import Derived.Deep.QuietTactic
import Derived.WalkSpells
import Derived.WalkLawsBesides
namespace Go.Proofs.Ytcehdpeeaogpiaa
open Go.RowKit
set_option linter.unusedSimpArgs false
set_option linter.unusedVariables false

def flip (e : Ed) : Ed := ⟨e.v, e.u, e.c⟩

theorem turned_any (N : Int) (a : Option Addr) (cap : Nat) (es : List Ed) (w : World) (B : Nat) (hB : B ≤ w.heap.size) (hE : Row encE 3 w B a es) (hl : es.length ≤ 600) :
    Calls Try.prog 118 #[.agg #[.int .i64 N, .slice a es.length cap]] w fun e w' => ∃ v, e = .returned (.agg #[.int .i64 N, v]) ∧ Own encE 3 34 w' w.heap.size v (es.map flip) ∧ Below w.heap.size w w' := by
  go_enter Try.func118, Try.ntmps118
  go_wp2
  go_loopw [12] (fun i wr => ∃ (k : Nat) (v : Value), k ≤ es.length ∧ i = .int .i64 k ∧ wr.cell? ⟨w.heap.size + 1 + 1, 0, none⟩ = some (.int .i64 N) ∧ wr.cell? ⟨w.heap.size + 1 + 1, 1, none⟩ = some v ∧ wr.frozen? ⟨w.heap.size + 1 + 1, 0, none⟩ = false ∧ wr.frozen? ⟨w.heap.size + 1 + 1, 1, none⟩ = false ∧
      wr.cell? ⟨w.heap.size + 1, 0, none⟩ = some (.int .i64 0) ∧ wr.cell? ⟨w.heap.size + 1, 1, none⟩ = some (.slice none 0 0) ∧ wr.frozen? ⟨w.heap.size + 1, 0, none⟩ = false ∧ wr.frozen? ⟨w.heap.size + 1, 1, none⟩ = false ∧
      Own encE 3 34 wr (w.heap.size + 1 + 1 + 1) v ((es.take k).map flip) ∧ Below w.heap.size w wr ∧ w.heap.size + 1 + 1 < wr.heap.size) (fun i _ => es.length - (intOf i).toNat)
  case atStart => 
    refine ⟨0, _, Nat.zero_le _, rfl, by simp [go_sem], by simp [go_sem]; rfl, by simp [go_sem], by simp [go_sem], by simp [go_sem], by simp [go_sem], by simp [go_sem], by simp [go_sem], by simpa using Own.nil _ _, (by repeat (first | with_reducible exact Below.refl _ _ | with_reducible assumption | with_reducible refine up_drewN ?_ | with_reducible refine up_drew ?_ | (with_reducible refine up_alloc ?_ ?_; rotate_left; (first | omega | (simp <;> omega) | simp)) | (with_reducible refine up_set ?_ ?_; rotate_left; (first | omega | (simp <;> omega) | simp)) | (with_reducible refine Below.trans ?_ (Below.mono (by with_reducible assumption) ?_); rotate_left; (first | omega | (simp <;> omega) | simp)))), by simp [go_sem]⟩
  case round =>
    obtain ⟨k, v, hk, rfl, c0, c1, f0, f1, c2, c3, f2, f3, own, hb, hsz⟩ := hrel
    by_cases hlt : k < es.length
    · obtain ⟨b, o, rfl, hbB, e0, e1, e2⟩ := hE.ed k hlt
      rw [← hb.cell (by simp; omega)] at e0 e1 e2
      have hsz1 : w.heap.size + 1 < wr.heap.size := by omega
      have hsz2 : w.heap.size < wr.heap.size := by omega
      have hL := hide (show ((es.take k).map flip).length = k by simp; omega)
      obtain ⟨av, cv, rfl⟩ := own.shape hL.out
      go_wp2_with (at_builtin; go_must (refine wpList_push rfl (.tmp 17) (.tmp 25) 22 rfl _ 24 Try.underlying22 info_ed rfl (by omega) lenE oneE k hL.out rfl ((own.alloc _).alloc _) ⟨wr.heap.size + 1, 0, none⟩ 1 (flip es[k]) rfl (newE _ _ _ _ (by simp)) (by omega) (by unfold maxLen; omega) (by simp; omega) ?_; intro g c' w1 own1 hb1 _ hg1 hg2; have hB1 := unalloc (unalloc hb1 (by simp <;> omega)) (by omega); obtain ⟨hc1, hf1⟩ := bcellB hB1))
      go_roundw
      case rel =>
        refine ⟨k + 1, .slice (some ⟨g, 0, none⟩) (k + 1) c', by omega, by go_num, ?_, ?_, ?_, ?_, ?_, ?_, ?_, ?_, ?_, ?_, ?_⟩
        all_goals try (simp [go_sem, hc1, hf1, c0, c1, c2, c3, f0, f1, f2, f3]; done)
        · rw [List.take_succ_eq_append_getElem hlt, List.map_append]
          exact own1.setCell (by simp) _
        · exact (hb.trans (hB1.mono (by omega))).setCell (by simp <;> omega) _
        · have := hB1.size; simp [go_sem]; omega
      case measure => simp [intOf]; omega
    · obtain rfl : k = es.length := by omega
      obtain ⟨av, cv, rfl⟩ := own.shape (n := es.length) (by simp)
      have own := hide own
      go_wp2
      refine bodyPost_ret (v := .agg #[.int .i64 N, .slice av es.length cv]) (by simp [results, Try.results118, go_sem, c0, c1, c2, c3, f0, f1, f2, f3]) rfl ⟨_, rfl, ?_, ?_⟩
      · have h := own.out
        rw [List.take_length] at h
        exact ((h.setCell (by simp) _).setCell (by simp) _).base_le (by omega)
      · exact (hb.setCell (by simp) _).setCell (by simp) _


