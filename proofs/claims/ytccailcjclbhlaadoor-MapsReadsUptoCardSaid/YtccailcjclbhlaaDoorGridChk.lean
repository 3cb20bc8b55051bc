/-
  What the checks of a grid return: grid.Check, and the reference's Grid. No condition but that the slice reads and the numbers fit 64 bits.
-/
import Derived.Test.YtccailcjclbhlaaDoorBase
import Derived.BigQuiet
import Derived.Deep.QuietTactic
import Derived.WalkSpells
import Derived.WalkLawsBesides
namespace Go.Proofs.YtccailcjclbhlaaDoor
open Go.RowKit
set_option linter.unusedSimpArgs false
set_option linter.unusedVariables false

def cellsErr : List Int → Int | [] => 0 | c :: r => if c < 0 ∨ c > 9 then 4 else cellsErr r
def gridErr (W H : Int) (cs : List Int) : Int := if W < 1 ∨ W > 8 ∨ H < 1 ∨ H > 8 then 1 else if (cs.length : Int) ≠ W * H then 3 else cellsErr cs
theorem cellsErr_hit {cs : List Int} {k : Nat} (h : k < cs.length) (hc : cs[k] < 0 ∨ cs[k] > 9) : cellsErr (cs.drop k) = 4 := by
  rw [List.drop_eq_getElem_cons h, cellsErr, if_pos hc]
theorem cellsErr_miss {cs : List Int} {k : Nat} (h : k < cs.length) (hc : ¬ (cs[k] < 0 ∨ cs[k] > 9)) : cellsErr (cs.drop k) = cellsErr (cs.drop (k + 1)) := by
  rw [List.drop_eq_getElem_cons h, cellsErr, if_neg hc]
theorem cellsErr_all : ∀ {cs : List Int}, cellsErr cs = 0 → ∀ c ∈ cs, 0 ≤ c ∧ c ≤ 9
  | [], _, c, hc => by cases hc
  | x :: r, h, c, hc => by
    rw [cellsErr] at h
    split at h
    · omega
    · cases hc with
      | head => omega
      | tail _ hm => exact cellsErr_all h c hm
theorem gridErr_ok {W H : Int} {cs : List Int} (h : gridErr W H cs = 0) : 1 ≤ W ∧ W ≤ 8 ∧ 1 ≤ H ∧ H ≤ 8 ∧ (cs.length : Int) = W * H ∧ ∀ c ∈ cs, 0 ≤ c ∧ c ≤ 9 := by
  unfold gridErr at h
  split at h
  · omega
  · split at h
    · omega
    · exact ⟨by omega, by omega, by omega, by omega, by omega, cellsErr_all h⟩

theorem rgrid_any (W H : Int) (a : Option Addr) (cap : Nat) (cs : List Int) (w : World) (B : Nat) (hB : B ≤ w.heap.size) (hE : Row encI 1 w B a cs) (hl : cs.length ≤ 9223372036854775807) :
    Calls Tryd.prog 9 #[.agg #[.int .i64 W, .int .i64 H, .slice a cs.length cap]] w fun e w' => e = .returned (.int .i64 (gridErr W H cs)) ∧ Below w.heap.size w w' := by
  replace hE := hide hE
  by_cases h1 : W < 1 ∨ W > 8 ∨ H < 1 ∨ H > 8
  · have hr := hide (show gridErr W H cs = 1 by simp only [gridErr]; rw [if_pos h1])
    have hd : W < 1 ∨ (1 ≤ W ∧ 8 < W) ∨ (1 ≤ W ∧ W ≤ 8 ∧ H < 1) ∨ (1 ≤ W ∧ W ≤ 8 ∧ 1 ≤ H ∧ 8 < H) := by omega
    clear h1
    rcases hd with hd | ⟨h1, h2⟩ | ⟨h1, h2, h3⟩ | ⟨h1, h2, h3, h4⟩
    all_goals
      go_enter Tryd.func9, Tryd.ntmps9
      go_wp2
      all_goals
        go_ret
        exact ⟨ret_int hr.out.symm, (by repeat (first | with_reducible exact Below.refl _ _ | with_reducible assumption | with_reducible refine up_drewN ?_ | with_reducible refine up_drew ?_ | (with_reducible refine up_alloc ?_ ?_; rotate_left; (first | omega | (simp <;> omega) | simp)) | (with_reducible refine up_set ?_ ?_; rotate_left; (first | omega | (simp <;> omega) | simp)) | (with_reducible refine Below.trans ?_ (Below.mono (by with_reducible assumption) ?_); rotate_left; (first | omega | (simp <;> omega) | simp))))⟩
  have b1 : 1 ≤ W := by omega
  have b2 : W ≤ 8 := by omega
  have b3 : 1 ≤ H := by omega
  have b4 : H ≤ 8 := by omega
  have m1 : 0 ≤ W * H := Int.mul_nonneg (by omega) (by omega)
  have m2 : W * H ≤ 64 := by
    have := Int.mul_le_mul b2 b4 (by omega) (by omega)
    omega
  by_cases h2 : (cs.length : Int) = W * H
  · have hr := hide (show gridErr W H cs = cellsErr cs by simp only [gridErr]; rw [if_neg h1, if_neg (by omega)])
    have q : ((cs.length : Int) != W * H) = false := by simpa using h2
    have hcl : (cs.length : Int) ≤ 64 := by omega
    clear h1 h2
    go_enter Tryd.func9, Tryd.ntmps9
    go_wp2
    go_loopw [35] (fun i wr => ∃ k : Nat, k ≤ cs.length ∧ i = .int .i64 k ∧ Hid (cellsErr cs = cellsErr (cs.drop k)) ∧ Below w.heap.size w wr) (fun i _ => cs.length - (intOf i).toNat)
    case atStart => exact ⟨0, Nat.zero_le _, rfl, rfl, (by repeat (first | with_reducible exact Below.refl _ _ | with_reducible assumption | with_reducible refine up_drewN ?_ | with_reducible refine up_drew ?_ | (with_reducible refine up_alloc ?_ ?_; rotate_left; (first | omega | (simp <;> omega) | simp)) | (with_reducible refine up_set ?_ ?_; rotate_left; (first | omega | (simp <;> omega) | simp)) | (with_reducible refine Below.trans ?_ (Below.mono (by with_reducible assumption) ?_); rotate_left; (first | omega | (simp <;> omega) | simp))))⟩
    case round =>
      obtain ⟨k, hk, rfl, hrest, hb⟩ := hrel
      by_cases hlt : k < cs.length
      · obtain ⟨b, o, rfl, hbB, c0⟩ := hE.out.int k hlt
        rw [← hb.cell (by simp; omega)] at c0
        go_wp2
        all_goals first
          | (go_ret
             refine ⟨ret_int ?_, hb⟩
             rw [hr.out, hrest.out, cellsErr_hit hlt (by omega)])
          | (go_roundw
             case rel => exact ⟨k + 1, by omega, by go_num, by rw [Hid, hrest.out]; exact cellsErr_miss hlt (by omega), hb⟩
             case measure => simp [intOf]; omega)
      · go_wp2
        go_ret
        refine ⟨ret_int ?_, hb⟩
        rw [hr.out, hrest.out, List.drop_eq_nil_of_le (by omega)]
        rfl
  · have hr := hide (show gridErr W H cs = 3 by simp only [gridErr]; rw [if_neg h1, if_pos h2])
    have q : ((cs.length : Int) != W * H) = true := by simpa using h2
    clear h1 h2
    go_enter Tryd.func9, Tryd.ntmps9
    go_wp2
    go_ret
    exact ⟨ret_int hr.out.symm, (by repeat (first | with_reducible exact Below.refl _ _ | with_reducible assumption | with_reducible refine up_drewN ?_ | with_reducible refine up_drew ?_ | (with_reducible refine up_alloc ?_ ?_; rotate_left; (first | omega | (simp <;> omega) | simp)) | (with_reducible refine up_set ?_ ?_; rotate_left; (first | omega | (simp <;> omega) | simp)) | (with_reducible refine Below.trans ?_ (Below.mono (by with_reducible assumption) ?_); rotate_left; (first | omega | (simp <;> omega) | simp))))⟩

def groundV (W H : Int) (cs : List Int) (x y : Int) : Int := if x < 0 ∨ x ≥ W ∨ y < 0 ∨ y ≥ H then 0 else cs.getD (y * W + x).toNat 0
theorem cell_any (W H x y : Int) (a : Option Addr) (cap : Nat) (cs : List Int) (w : World) (B : Nat) (hB : B ≤ w.heap.size) (hE : Row encI 1 w B a cs) (b1 : 1 ≤ W) (b2 : W ≤ 8) (b3 : 1 ≤ H) (b4 : H ≤ 8) (hcl : (cs.length : Int) = W * H) :
    Calls Tryd.prog 14 #[.agg #[.int .i64 W, .int .i64 H, .slice a cs.length cap], .int .i64 x, .int .i64 y] w fun e w' => e = .returned (.int .i64 (groundV W H cs x y)) ∧ Below w.heap.size w w' := by
  by_cases h1 : x < 0 ∨ x ≥ W ∨ y < 0 ∨ y ≥ H
  · have hr := hide (show groundV W H cs x y = 0 by simp only [groundV]; rw [if_pos h1])
    have hd : x < 0 ∨ (0 ≤ x ∧ W ≤ x ∧ y < 0) ∨ (0 ≤ x ∧ W ≤ x ∧ 0 ≤ y) ∨ (0 ≤ x ∧ x < W ∧ y < 0) ∨ (0 ≤ x ∧ x < W ∧ 0 ≤ y ∧ H ≤ y) := by omega
    clear h1 hE
    rcases hd with hd | ⟨h1, h2, h3⟩ | ⟨h1, h2, h3⟩ | ⟨h1, h2, h3⟩ | ⟨h1, h2, h3, h4⟩
    all_goals
      go_enter Tryd.func14, Tryd.ntmps14
      go_wp2
      all_goals
        go_ret
        exact ⟨ret_int hr.out.symm, (by repeat (first | with_reducible exact Below.refl _ _ | with_reducible assumption | with_reducible refine up_drewN ?_ | with_reducible refine up_drew ?_ | (with_reducible refine up_alloc ?_ ?_; rotate_left; (first | omega | (simp <;> omega) | simp)) | (with_reducible refine up_set ?_ ?_; rotate_left; (first | omega | (simp <;> omega) | simp)) | (with_reducible refine Below.trans ?_ (Below.mono (by with_reducible assumption) ?_); rotate_left; (first | omega | (simp <;> omega) | simp))))⟩
  · have hx0 : 0 ≤ x := by omega
    have hx1 : x < W := by omega
    have hy0 : 0 ≤ y := by omega
    have hy1 : y < H := by omega
    have hm0 : 0 ≤ y * W := Int.mul_nonneg hy0 (by omega)
    have hm1 : y * W + W ≤ W * H := by
      have : (y + 1) * W ≤ H * W := Int.mul_le_mul_of_nonneg_right (by omega) (by omega)
      rw [Int.add_mul, Int.mul_comm H W] at this; omega
    have hm2 : W * H ≤ 64 := by have := Int.mul_le_mul b2 b4 (by omega) (by omega); omega
    have hk : (y * W + x).toNat < cs.length := by omega
    have hr : groundV W H cs x y = cs[(y * W + x).toNat] := by
      simp only [groundV]; rw [if_neg h1, List.getD_eq_getElem?_getD, List.getElem?_eq_getElem hk]; rfl
    obtain ⟨b, o, rfl, hbB, c0⟩ := hE.int _ hk
    rw [← hr] at c0
    have hcomm : W * y = y * W := Int.mul_comm W y
    rw [← hcomm] at c0 hm0 hm1
    have hlt : W * y + x < (cs.length : Int) := by omega
    have hbw : b < w.heap.size := by omega
    clear hcomm
    clear h1 hr hE
    go_enter Tryd.func14, Tryd.ntmps14
    go_wp2
    go_ret
    exact ⟨rfl, (by repeat (first | with_reducible exact Below.refl _ _ | with_reducible assumption | with_reducible refine up_drewN ?_ | with_reducible refine up_drew ?_ | (with_reducible refine up_alloc ?_ ?_; rotate_left; (first | omega | (simp <;> omega) | simp)) | (with_reducible refine up_set ?_ ?_; rotate_left; (first | omega | (simp <;> omega) | simp)) | (with_reducible refine Below.trans ?_ (Below.mono (by with_reducible assumption) ?_); rotate_left; (first | omega | (simp <;> omega) | simp))))⟩

end Go.Proofs.YtccailcjclbhlaaDoor
