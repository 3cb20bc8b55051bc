/-
  What net.Turned, net.Turn and the reference's Turned return. Conditions: as each theorem says.
-/
import Derived.Test.YtiibhdibeljcjaaNetChk
import Derived.Test.YtiibhdibeljcjaaOwn
import Derived.BigQuiet
import Derived.Deep.QuietTactic
import Derived.WalkSpells
import Derived.WalkLawsBesides
namespace Go.Proofs.Ytiibhdibeljcjaa
open Go.RowKit
set_option linter.unusedSimpArgs false
set_option linter.unusedVariables false

def flip (e : Ed) : Ed := ⟨e.v, e.u, e.c⟩
theorem info_ed : (Try.prog.info? 79).map (fun i => (i.zero, i.size, i.bytes)) = some (some (.agg #[.int .i64 0, .int .i64 0, .int .i64 0]), 3, 24) := by kernel_rfl

theorem turned_any (N : Int) (a : Option Addr) (cap : Nat) (es : List Ed) (w : World) (B : Nat) (hB : B ≤ w.heap.size) (hE : Row encE 3 w B a es) (hl : es.length ≤ 600) :
    Calls Try.prog 65 #[.agg #[.int .i64 N, .slice a es.length cap]] w fun e w' => ∃ v, e = .returned (.agg #[.int .i64 N, v]) ∧ Own encE 3 79 w' w.heap.size v (es.map flip) ∧ Below w.heap.size w w' := by
  go_enter Try.func65, Try.ntmps65
  go_wp2
  go_loopw [12] (fun i wr => ∃ (k : Nat) (v : Value), k ≤ es.length ∧ i = .int .i64 k ∧ wr.cell? ⟨w.heap.size + 1 + 1, 0, none⟩ = some (.int .i64 N) ∧ wr.cell? ⟨w.heap.size + 1 + 1, 1, none⟩ = some v ∧ wr.frozen? ⟨w.heap.size + 1 + 1, 0, none⟩ = false ∧ wr.frozen? ⟨w.heap.size + 1 + 1, 1, none⟩ = false ∧
      wr.cell? ⟨w.heap.size + 1, 0, none⟩ = some (.int .i64 0) ∧ wr.cell? ⟨w.heap.size + 1, 1, none⟩ = some (.slice none 0 0) ∧ wr.frozen? ⟨w.heap.size + 1, 0, none⟩ = false ∧ wr.frozen? ⟨w.heap.size + 1, 1, none⟩ = false ∧
      Own encE 3 79 wr (w.heap.size + 1 + 1 + 1) v ((es.take k).map flip) ∧ Below w.heap.size w wr ∧ w.heap.size + 1 + 1 < wr.heap.size) (fun i _ => es.length - (intOf i).toNat)
  case atStart => 
    refine ⟨0, _, Nat.zero_le _, rfl, by simp [go_sem], by simp [go_sem]; rfl, by simp [go_sem], by simp [go_sem], by simp [go_sem], by simp [go_sem], by simp [go_sem], by simp [go_sem], by simpa using Own.nil _ _, (by repeat (first | with_reducible exact Below.refl _ _ | with_reducible assumption | with_reducible refine up_drewN ?_ | with_reducible refine up_drew ?_ | (with_reducible refine up_alloc ?_ ?_; rotate_left; (first | omega | (simp <;> omega) | simp)) | (with_reducible refine up_set ?_ ?_; rotate_left; (first | omega | (simp <;> omega) | simp)) | (with_reducible refine Below.trans ?_ (Below.mono (by with_reducible assumption) ?_); rotate_left; (first | omega | (simp <;> omega) | simp)))), by simp [go_sem]⟩
  case round =>
    obtain ⟨k, v, hk, rfl, c0, c1, f0, f1, c2, c3, f2, f3, own, hb, hsz⟩ := hrel
    by_cases hlt : k < es.length
    · obtain ⟨b, o, rfl, hbB, e0, e1, e2⟩ := hE.ed k hlt
      rw [← hb.cell (by simp; omega)] at e0 e1 e2
      have hsz1 : w.heap.size + 1 < wr.heap.size := by omega
      have hsz2 : w.heap.size < wr.heap.size := by omega
      have hL := hide (show ((es.take k).map flip).length = k by simp; omega)
      obtain ⟨av, cv, rfl⟩ := own.shape hL.out
      go_wp2_with (at_builtin; go_must (refine wpList_push rfl (.tmp 17) (.tmp 25) 42 rfl _ 24 Try.underlying42 info_ed rfl (by omega) lenE oneE k hL.out rfl ((own.alloc _).alloc _) ⟨wr.heap.size + 1, 0, none⟩ 1 (flip es[k]) rfl (newE _ _ _ _ (by simp)) (by omega) (by unfold maxLen; omega) (by simp; omega) ?_; intro g c' w1 own1 hb1 _ hg1 hg2; have hB1 := unalloc (unalloc hb1 (by simp <;> omega)) (by omega); obtain ⟨hc1, hf1⟩ := bcellB hB1))
      go_roundw
      case rel =>
        refine ⟨k + 1, .slice (some ⟨g, 0, none⟩) (k + 1) c', by omega, by go_num, ?_, ?_, ?_, ?_, ?_, ?_, ?_, ?_, ?_, ?_, ?_⟩
        all_goals try (simp [go_sem, hc1, hf1, c0, c1, c2, c3, f0, f1, f2, f3]; done)
        · rw [List.take_succ_eq_append_getElem hlt, List.map_append]
          exact own1.setCell (by simp) _
        · exact (hb.trans (hB1.mono (by omega))).setCell (by simp <;> omega) _
        · have := hB1.size; simp [go_sem]; omega
      case measure => simp [intOf]; omega
    · obtain rfl : k = es.length := by omega
      obtain ⟨av, cv, rfl⟩ := own.shape (n := es.length) (by simp)
      have own := hide own
      go_wp2
      refine bodyPost_ret (v := .agg #[.int .i64 N, .slice av es.length cv]) (by simp [results, Try.results65, go_sem, c0, c1, c2, c3, f0, f1, f2, f3]) rfl ⟨_, rfl, ?_, ?_⟩
      · have h := own.out
        rw [List.take_length] at h
        exact ((h.setCell (by simp) _).setCell (by simp) _).base_le (by omega)
      · exact (hb.setCell (by simp) _).setCell (by simp) _


def Net0 (e : TypeId) (N : Int) (es : List Ed) (err : Int) (w : World) (e' : Ending) (w' : World) : Prop := ∃ M v, e' = .returned (.tuple #[.agg #[.int .i64 M, v], .int .i64 err]) ∧ Own encE 3 e w' w.heap.size v es ∧ M = N ∧ Below w.heap.size w w'
theorem turn_any (N : Int) (a : Option Addr) (cap : Nat) (es : List Ed) (w : World) (B : Nat) (hB : B ≤ w.heap.size) (hE : Row encE 3 w B a es) (hl : es.length ≤ 9223372036854775807) :
    Calls Try.prog 24 #[.agg #[.int .i64 N, .slice a es.length cap]] w (Net0 79 (if netErr N es = 0 then N else 0) (if netErr N es = 0 then es.map flip else []) (netErr N es) w) := by
  have hC := hide (fun w B hB hE => check_any N a cap es w B hB hE hl)
  by_cases h0 : netErr N es = 0
  · obtain ⟨n1, n2, n3, n4⟩ := netErr_ok h0
    have q0 : (netErr N es != 0) = false := by simp [h0]
    simp only [h0, if_true]
    have hE := hide hE
    clear h0 hC n4
    go_enter Try.func24, Try.ntmps24
    go_wp2_with fail
    refine (check_any N a cap es _ B (by simp <;> omega) (hE.out.below ((by repeat (first | with_reducible exact Below.refl _ _ | with_reducible assumption | with_reducible refine up_drewN ?_ | with_reducible refine up_drew ?_ | (with_reducible refine up_alloc ?_ ?_; rotate_left; (first | omega | (simp <;> omega) | simp)) | (with_reducible refine up_set ?_ ?_; rotate_left; (first | omega | (simp <;> omega) | simp)) | (with_reducible refine Below.trans ?_ (Below.mono (by with_reducible assumption) ?_); rotate_left; (first | omega | (simp <;> omega) | simp)))) : Below w.heap.size w _) hB) hl).mono ?_
    rintro e w1 ⟨rfl, hb1⟩
    obtain ⟨hc1, hf1⟩ := bcell hb1; have hz1 : w.heap.size + 1 < w1.heap.size := (by have := hb1.size; (try simp at this); omega)
    have hz2 : w.heap.size < w1.heap.size := by omega
    go_wp2_with fail
    refine (turned_any N a cap es _ B (by omega) (hE.out.below ((by repeat (first | with_reducible exact Below.refl _ _ | with_reducible assumption | with_reducible refine up_drewN ?_ | with_reducible refine up_drew ?_ | (with_reducible refine up_alloc ?_ ?_; rotate_left; (first | omega | (simp <;> omega) | simp)) | (with_reducible refine up_set ?_ ?_; rotate_left; (first | omega | (simp <;> omega) | simp)) | (with_reducible refine Below.trans ?_ (Below.mono (by with_reducible assumption) ?_); rotate_left; (first | omega | (simp <;> omega) | simp)))) : Below w.heap.size w _) hB) n3).mono ?_
    rintro e w2 ⟨v, rfl, own, hb2⟩
    obtain ⟨av, cv, rfl⟩ := own.shape (n := es.length) (by simp)
    obtain ⟨hc2, hf2⟩ := bcell hb2; have hz2 : w.heap.size + 1 < w2.heap.size := (by have := hb2.size; (try simp at this); omega)
    have hz3 : w.heap.size < w2.heap.size := by omega
    have own := hide own
    go_wp2
    refine bodyPost_ret (v := .tuple #[.agg #[.int .i64 N, .slice av es.length cv], .int .i64 0]) (by simp [results, Try.results24, go_sem, hc2, hc1, hz1, hz2, hz3, hf1, hf2]) rfl ⟨N, _, rfl, ?_, rfl, ?_⟩
    · exact ((own.out.setCell (by simp <;> omega) _).setCell (by simp <;> omega) _).base_le (by omega)
    · exact (by repeat (first | with_reducible exact Below.refl _ _ | with_reducible assumption | with_reducible refine up_drewN ?_ | with_reducible refine up_drew ?_ | (with_reducible refine up_alloc ?_ ?_; rotate_left; (first | omega | (simp <;> omega) | simp)) | (with_reducible refine up_set ?_ ?_; rotate_left; (first | omega | (simp <;> omega) | simp)) | (with_reducible refine Below.trans ?_ (Below.mono (by with_reducible assumption) ?_); rotate_left; (first | omega | (simp <;> omega) | simp))))
  · have q0 : (netErr N es != 0) = true := by simp [h0]
    simp only [h0, if_false]
    have hE := hide hE
    clear h0 hC
    go_enter Try.func24, Try.ntmps24
    go_wp2_with fail
    refine (check_any N a cap es _ B (by simp <;> omega) (hE.out.below ((by repeat (first | with_reducible exact Below.refl _ _ | with_reducible assumption | with_reducible refine up_drewN ?_ | with_reducible refine up_drew ?_ | (with_reducible refine up_alloc ?_ ?_; rotate_left; (first | omega | (simp <;> omega) | simp)) | (with_reducible refine up_set ?_ ?_; rotate_left; (first | omega | (simp <;> omega) | simp)) | (with_reducible refine Below.trans ?_ (Below.mono (by with_reducible assumption) ?_); rotate_left; (first | omega | (simp <;> omega) | simp)))) : Below w.heap.size w _) hB) hl).mono ?_
    rintro e w1 ⟨rfl, hb1⟩
    obtain ⟨hc1, hf1⟩ := bcell hb1; have hz1 : w.heap.size + 1 < w1.heap.size := (by have := hb1.size; (try simp at this); omega)
    have hz2 : w.heap.size < w1.heap.size := by omega
    go_wp2
    refine bodyPost_ret (v := .tuple #[.agg #[.int .i64 0, .slice none 0 0], .int .i64 (netErr N es)]) (by simp [results, Try.results24, go_sem, hc1, hz1, hz2, hf1]) rfl ⟨0, _, rfl, Own.nil _ _, rfl, (by repeat (first | with_reducible exact Below.refl _ _ | with_reducible assumption | with_reducible refine up_drewN ?_ | with_reducible refine up_drew ?_ | (with_reducible refine up_alloc ?_ ?_; rotate_left; (first | omega | (simp <;> omega) | simp)) | (with_reducible refine up_set ?_ ?_; rotate_left; (first | omega | (simp <;> omega) | simp)) | (with_reducible refine Below.trans ?_ (Below.mono (by with_reducible assumption) ?_); rotate_left; (first | omega | (simp <;> omega) | simp))))⟩

end Go.Proofs.Ytiibhdibeljcjaa
