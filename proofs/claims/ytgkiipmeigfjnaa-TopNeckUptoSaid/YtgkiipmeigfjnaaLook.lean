/-
  What dijk.Look and the reference's Look return. Condition: the slices read.
-/
import Derived.Test.YtgkiipmeigfjnaaPos
import Derived.Test.YtgkiipmeigfjnaaOwn3
import Derived.LoopTactic
namespace Go.Proofs.Ytgkiipmeigfjnaa
open Go.RowKit
set_option linter.unusedSimpArgs false
set_option linter.unusedVariables false
def plErr (N : Int) : List Int → Int | [] => 0 | x :: r => if x < 0 ∨ N ≤ x then 1 else plErr N r
def lookErr (N : Int) (es : List Ed) (ps : List Int) : Int := if posErr N es ≠ 0 then posErr N es else plErr N ps
theorem pl_hit {N : Int} {ps : List Int} {k : Nat} (h : k < ps.length) (q : ps[k] < 0 ∨ N ≤ ps[k]) : plErr N (ps.drop k) = 1 := by
  rw [List.drop_eq_getElem_cons h, plErr, if_pos q]
theorem pl_miss {N : Int} {ps : List Int} {k : Nat} (h : k < ps.length) (q : ¬ (ps[k] < 0 ∨ N ≤ ps[k])) : plErr N (ps.drop k) = plErr N (ps.drop (k + 1)) := by
  rw [List.drop_eq_getElem_cons h, plErr, if_neg q]
theorem pl_all {N : Int} : ∀ {ps : List Int}, plErr N ps = 0 → ∀ x ∈ ps, 0 ≤ x ∧ x < N
  | [], _, x, hx => by cases hx
  | y :: r, h, x, hx => by
    unfold plErr at h
    split at h
    · omega
    · rename_i q
      rcases List.mem_cons.1 hx with rfl | hx
      · omega
      · exact pl_all h x hx
theorem pl_vals {N : Int} : ∀ (ps : List Int), plErr N ps = 0 ∨ plErr N ps = 1
  | [] => .inl rfl
  | y :: r => by
    unfold plErr
    split
    · exact .inr rfl
    · exact pl_vals r
theorem look_ok {N : Int} {es : List Ed} {ps : List Int} (h : lookErr N es ps = 0) : posErr N es = 0 ∧ ∀ x ∈ ps, 0 ≤ x ∧ x < N := by
  unfold lookErr at h
  by_cases h0 : posErr N es = 0
  · rw [if_neg (by simp [h0])] at h
    exact ⟨h0, pl_all h⟩
  · rw [if_pos h0] at h; exact absurd h h0
theorem look_any (N : Int) (a : Option Addr) (cap : Nat) (es : List Ed) (a1 : Option Addr) (c1 k1 : Nat) (ps : List Int) (hk : ps.length = k1) (w : World) (B : Nat) (hB : B ≤ w.heap.size) (hE : Row encE 3 w B a es) (hP : Row encI 1 w B a1 ps) (hl : es.length ≤ 9223372036854775807) (hl2 : k1 ≤ 9223372036854775807) :
    Calls Try.prog 98 #[.agg #[.int .i64 N, .slice a es.length cap], .slice a1 k1 c1] w fun e w' => e = .returned (.int .i64 (lookErr N es ps)) ∧ Below w.heap.size w w' := by
  subst hk
  by_cases h0 : posErr N es = 0
  · have hr : Hid (lookErr N es ps = plErr N ps) := by simp only [Hid, lookErr]; rw [if_neg (by simp [h0])]
    have hC := hide (fun w hB hE => by have := pos_any N a cap es w B hB hE hl; rw [h0] at this; exact this)
    replace hE := hide hE
    replace hP := hide hP
    clear h0
    go_enter Try.func98, Try.ntmps98
    go_wp2_with fail
    refine (hC.out _ (by simp; omega) (hE.out.below ((by repeat (first | with_reducible exact Below.refl _ _ | with_reducible assumption | with_reducible refine up_drewN ?_ | with_reducible refine up_drew ?_ | (with_reducible refine up_alloc ?_ ?_; rotate_left; (first | omega | (simp <;> omega) | simp)) | (with_reducible refine up_set ?_ ?_; rotate_left; (first | omega | (simp <;> omega) | simp)) | (with_reducible refine Below.trans ?_ (Below.mono (by with_reducible assumption) ?_); rotate_left; (first | omega | (simp <;> omega) | simp)))) : Below w.heap.size w _) hB)).mono ?_
    rintro e w1 ⟨rfl, hb1⟩
    have hz0 : w.heap.size < w1.heap.size := by have := hb1.size; simp at this; omega
    have kN : w1.cell? ⟨w.heap.size, 0, none⟩ = some (.int .i64 N) := cu_below hb1 (by simp [go_sem]) (by simp)
    have hbw := hide (unalloc (hb1.mono (by simp)) (Nat.le_refl _) : Below w.heap.size w w1)
    clear hb1
    go_wp2
    go_loopw [7, 15] (fun _ i wr => ∃ k : Nat, k ≤ ps.length ∧ i = .int .i64 k ∧ Hid (plErr N ps = plErr N (ps.drop k)) ∧ Hid (Below w1.heap.size w1 wr)) (fun _ i _ => ps.length - (intOf i).toNat)
    case atStart => exact ⟨0, Nat.zero_le _, rfl, rfl, Below.refl _ _⟩
    case round =>
      obtain ⟨k, hk, rfl, hrest, hb⟩ := hrel
      have k0 := (hb.out.cell (cell_lt kN)).trans kN
      have hzr := hb.out.size
      have hbr := hide (hbw.out.trans (hb.out.mono hbw.out.size))
      clear kN
      by_cases hlt : k < ps.length
      · obtain ⟨b, o, rfl, hbB, e0⟩ := hP.out.int k hlt
        have e1 := cu_below hbr.out e0 (by simp; omega)
        have hbl := cell_lt e1
        clear e0
        obtain ⟨x, hx⟩ : ∃ x, x = ps[k] := ⟨_, rfl⟩
        rw [← hx] at e1
        replace hx := hide hx
        by_cases q : x < 0 ∨ N ≤ x
        · have hq := hide (pl_hit hlt (by rw [← hx.out]; exact q))
          have q2 : x < 0 ∨ (0 ≤ x ∧ N ≤ x) := by omega
          clear q
          rcases q2 with q | ⟨q0, q⟩
          all_goals
            go_wp2
            go_ret
            exact ⟨ret_int (by rw [hr.out, hrest.out, hq.out]), hbr.out⟩
        · have hq := hide (pl_miss hlt (by rw [← hx.out]; exact q))
          have q1 : 0 ≤ x := by omega
          have q2 : x < N := by omega
          clear q
          go_wp2
          go_roundw
          case rel => exact ⟨k + 1, by omega, by go_num, hide (by rw [hrest.out, hq.out]), hb⟩
          case measure => simp [intOf]; omega
      · go_wp2
        go_ret
        refine ⟨ret_int ?_, hbr.out⟩
        rw [hr.out, hrest.out, List.drop_eq_nil_of_le (by omega)]
        rfl
  · have hr : Hid (lookErr N es ps = posErr N es) := by simp only [Hid, lookErr]; rw [if_pos h0]
    have q0 : (posErr N es != 0) = true := by simp [h0]
    have hC := hide (fun w hB hE => pos_any N a cap es w B hB hE hl)
    replace hE := hide hE
    replace hP := hide hP
    clear h0
    go_enter Try.func98, Try.ntmps98
    go_wp2_with fail
    refine (hC.out _ (by simp; omega) (hE.out.below ((by repeat (first | with_reducible exact Below.refl _ _ | with_reducible assumption | with_reducible refine up_drewN ?_ | with_reducible refine up_drew ?_ | (with_reducible refine up_alloc ?_ ?_; rotate_left; (first | omega | (simp <;> omega) | simp)) | (with_reducible refine up_set ?_ ?_; rotate_left; (first | omega | (simp <;> omega) | simp)) | (with_reducible refine Below.trans ?_ (Below.mono (by with_reducible assumption) ?_); rotate_left; (first | omega | (simp <;> omega) | simp)))) : Below w.heap.size w _) hB)).mono ?_
    rintro e w1 ⟨rfl, hb1⟩
    go_wp2
    go_ret
    exact ⟨ret_int hr.out.symm, (by repeat (first | with_reducible exact Below.refl _ _ | with_reducible assumption | with_reducible refine up_drewN ?_ | with_reducible refine up_drew ?_ | (with_reducible refine up_alloc ?_ ?_; rotate_left; (first | omega | (simp <;> omega) | simp)) | (with_reducible refine up_set ?_ ?_; rotate_left; (first | omega | (simp <;> omega) | simp)) | (with_reducible refine Below.trans ?_ (Below.mono (by with_reducible assumption) ?_); rotate_left; (first | omega | (simp <;> omega) | simp))))⟩
theorem rlook_any (N : Int) (a : Option Addr) (cap : Nat) (es : List Ed) (a1 : Option Addr) (c1 k1 : Nat) (ps : List Int) (hk : ps.length = k1) (w : World) (B : Nat) (hB : B ≤ w.heap.size) (hE : Row encE 3 w B a es) (hP : Row encI 1 w B a1 ps) (hl : es.length ≤ 9223372036854775807) (hl2 : k1 ≤ 9223372036854775807) :
    Calls Try.prog 47 #[.agg #[.int .i64 N, .slice a es.length cap], .slice a1 k1 c1] w fun e w' => e = .returned (.int .i64 (lookErr N es ps)) ∧ Below w.heap.size w w' := by
  subst hk
  by_cases h0 : posErr N es = 0
  · have hr : Hid (lookErr N es ps = plErr N ps) := by simp only [Hid, lookErr]; rw [if_neg (by simp [h0])]
    have hC := hide (fun w hB hE => by have := rpos_any N a cap es w B hB hE hl; rw [h0] at this; exact this)
    replace hE := hide hE
    replace hP := hide hP
    clear h0
    go_enter Try.func47, Try.ntmps47
    go_wp2_with fail
    refine (hC.out _ (by simp; omega) (hE.out.below ((by repeat (first | with_reducible exact Below.refl _ _ | with_reducible assumption | with_reducible refine up_drewN ?_ | with_reducible refine up_drew ?_ | (with_reducible refine up_alloc ?_ ?_; rotate_left; (first | omega | (simp <;> omega) | simp)) | (with_reducible refine up_set ?_ ?_; rotate_left; (first | omega | (simp <;> omega) | simp)) | (with_reducible refine Below.trans ?_ (Below.mono (by with_reducible assumption) ?_); rotate_left; (first | omega | (simp <;> omega) | simp)))) : Below w.heap.size w _) hB)).mono ?_
    rintro e w1 ⟨rfl, hb1⟩
    have hz0 : w.heap.size < w1.heap.size := by have := hb1.size; simp at this; omega
    have kN : w1.cell? ⟨w.heap.size, 0, none⟩ = some (.int .i64 N) := cu_below hb1 (by simp [go_sem]) (by simp)
    have hbw := hide (unalloc (hb1.mono (by simp)) (Nat.le_refl _) : Below w.heap.size w w1)
    clear hb1
    go_wp2
    go_loopw [7, 15] (fun _ i wr => ∃ k : Nat, k ≤ ps.length ∧ i = .int .i64 k ∧ Hid (plErr N ps = plErr N (ps.drop k)) ∧ Hid (Below w1.heap.size w1 wr)) (fun _ i _ => ps.length - (intOf i).toNat)
    case atStart => exact ⟨0, Nat.zero_le _, rfl, rfl, Below.refl _ _⟩
    case round =>
      obtain ⟨k, hk, rfl, hrest, hb⟩ := hrel
      have k0 := (hb.out.cell (cell_lt kN)).trans kN
      have hzr := hb.out.size
      have hbr := hide (hbw.out.trans (hb.out.mono hbw.out.size))
      clear kN
      by_cases hlt : k < ps.length
      · obtain ⟨b, o, rfl, hbB, e0⟩ := hP.out.int k hlt
        have e1 := cu_below hbr.out e0 (by simp; omega)
        have hbl := cell_lt e1
        clear e0
        obtain ⟨x, hx⟩ : ∃ x, x = ps[k] := ⟨_, rfl⟩
        rw [← hx] at e1
        replace hx := hide hx
        by_cases q : x < 0 ∨ N ≤ x
        · have hq := hide (pl_hit hlt (by rw [← hx.out]; exact q))
          have q2 : x < 0 ∨ (0 ≤ x ∧ N ≤ x) := by omega
          clear q
          rcases q2 with q | ⟨q0, q⟩
          all_goals
            go_wp2
            go_ret
            exact ⟨ret_int (by rw [hr.out, hrest.out, hq.out]), hbr.out⟩
        · have hq := hide (pl_miss hlt (by rw [← hx.out]; exact q))
          have q1 : 0 ≤ x := by omega
          have q2 : x < N := by omega
          clear q
          go_wp2
          go_roundw
          case rel => exact ⟨k + 1, by omega, by go_num, hide (by rw [hrest.out, hq.out]), hb⟩
          case measure => simp [intOf]; omega
      · go_wp2
        go_ret
        refine ⟨ret_int ?_, hbr.out⟩
        rw [hr.out, hrest.out, List.drop_eq_nil_of_le (by omega)]
        rfl
  · have hr : Hid (lookErr N es ps = posErr N es) := by simp only [Hid, lookErr]; rw [if_pos h0]
    have q0 : (posErr N es != 0) = true := by simp [h0]
    have hC := hide (fun w hB hE => rpos_any N a cap es w B hB hE hl)
    replace hE := hide hE
    replace hP := hide hP
    clear h0
    go_enter Try.func47, Try.ntmps47
    go_wp2_with fail
    refine (hC.out _ (by simp; omega) (hE.out.below ((by repeat (first | with_reducible exact Below.refl _ _ | with_reducible assumption | with_reducible refine up_drewN ?_ | with_reducible refine up_drew ?_ | (with_reducible refine up_alloc ?_ ?_; rotate_left; (first | omega | (simp <;> omega) | simp)) | (with_reducible refine up_set ?_ ?_; rotate_left; (first | omega | (simp <;> omega) | simp)) | (with_reducible refine Below.trans ?_ (Below.mono (by with_reducible assumption) ?_); rotate_left; (first | omega | (simp <;> omega) | simp)))) : Below w.heap.size w _) hB)).mono ?_
    rintro e w1 ⟨rfl, hb1⟩
    go_wp2
    go_ret
    exact ⟨ret_int hr.out.symm, (by repeat (first | with_reducible exact Below.refl _ _ | with_reducible assumption | with_reducible refine up_drewN ?_ | with_reducible refine up_drew ?_ | (with_reducible refine up_alloc ?_ ?_; rotate_left; (first | omega | (simp <;> omega) | simp)) | (with_reducible refine up_set ?_ ?_; rotate_left; (first | omega | (simp <;> omega) | simp)) | (with_reducible refine Below.trans ?_ (Below.mono (by with_reducible assumption) ?_); rotate_left; (first | omega | (simp <;> omega) | simp))))⟩
end Go.Proofs.Ytgkiipmeigfjnaa
