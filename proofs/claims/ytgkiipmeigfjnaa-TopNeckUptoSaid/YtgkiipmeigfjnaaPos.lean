/-
  What net.Pos and the reference's Pos return: is a net right, and are its costs above 0? No condition but that the slice reads.
-/
import Derived.Test.YtgkiipmeigfjnaaNetChk
namespace Go.Proofs.Ytgkiipmeigfjnaa
open Go.RowKit
set_option linter.unusedSimpArgs false
set_option linter.unusedVariables false

def lowCost : List Ed → Bool | [] => false | e :: r => if e.c < 1 then true else lowCost r
def posErr (N : Int) (es : List Ed) : Int := if netErr N es ≠ 0 then netErr N es else if lowCost es then 4 else 0
theorem low_hit {es : List Ed} {k : Nat} (h : k < es.length) (hc : es[k].c < 1) : lowCost (es.drop k) = true := by
  rw [List.drop_eq_getElem_cons h, lowCost, if_pos hc]
theorem low_miss {es : List Ed} {k : Nat} (h : k < es.length) (hc : ¬ es[k].c < 1) : lowCost (es.drop k) = lowCost (es.drop (k + 1)) := by
  rw [List.drop_eq_getElem_cons h, lowCost, if_neg hc]
theorem low_no : ∀ {es : List Ed}, lowCost es = false → ∀ e ∈ es, 1 ≤ e.c
  | [], _, e, he => by cases he
  | x :: r, h, e, he => by
    rw [lowCost] at h
    split at h
    · cases h
    · cases he with
      | head => omega
      | tail _ hm => exact low_no h e hm
theorem posErr_ok {N : Int} {es : List Ed} (h : posErr N es = 0) : netErr N es = 0 ∧ ∀ e ∈ es, 1 ≤ e.c := by
  unfold posErr at h
  split at h
  · omega
  · split at h
    · omega
    · exact ⟨by omega, low_no (by simpa using ‹¬ lowCost es = true›)⟩

theorem pos_any (N : Int) (a : Option Addr) (cap : Nat) (es : List Ed) (w : World) (B : Nat) (hB : B ≤ w.heap.size) (hE : Row encE 3 w B a es) (hl : es.length ≤ 9223372036854775807) :
    Calls Try.prog 97 #[.agg #[.int .i64 N, .slice a es.length cap]] w fun e w' => e = .returned (.int .i64 (posErr N es)) ∧ Below w.heap.size w w' := by
  have hE := hide hE
  by_cases h0 : netErr N es = 0
  · obtain ⟨n1, n2, n3, _⟩ := netErr_ok h0
    have hC := fun w hB hE => check_any N a cap es w B hB hE hl
    rw [h0] at hC
    have hr := hide (show posErr N es = if lowCost es then 4 else 0 by simp [posErr, h0])
    replace hC := hide hC
    clear h0
    go_enter Try.func97, Try.ntmps97
    go_wp2_with fail
    refine (hC.out _ (by simp; omega) (hE.out.below ((by repeat (first | with_reducible exact Below.refl _ _ | with_reducible assumption | with_reducible refine up_drewN ?_ | with_reducible refine up_drew ?_ | (with_reducible refine up_alloc ?_ ?_; rotate_left; (first | omega | (simp <;> omega) | simp)) | (with_reducible refine up_set ?_ ?_; rotate_left; (first | omega | (simp <;> omega) | simp)) | (with_reducible refine Below.trans ?_ (Below.mono (by with_reducible assumption) ?_); rotate_left; (first | omega | (simp <;> omega) | simp)))) : Below w.heap.size w _) hB)).mono ?_
    rintro e w1 ⟨rfl, hb1⟩
    obtain ⟨hc1, hf1⟩ := bcell hb1; have hz1 : w.heap.size < w1.heap.size := (by have := hb1.size; (try simp at this); omega)
    have hb : Below w.heap.size w w1 := (by repeat (first | with_reducible exact Below.refl _ _ | with_reducible assumption | with_reducible refine up_drewN ?_ | with_reducible refine up_drew ?_ | (with_reducible refine up_alloc ?_ ?_; rotate_left; (first | omega | (simp <;> omega) | simp)) | (with_reducible refine up_set ?_ ?_; rotate_left; (first | omega | (simp <;> omega) | simp)) | (with_reducible refine Below.trans ?_ (Below.mono (by with_reducible assumption) ?_); rotate_left; (first | omega | (simp <;> omega) | simp))))
    go_wp2
    go_loopw [14] (fun i wr => ∃ k : Nat, k ≤ es.length ∧ i = .int .i64 k ∧ Hid (lowCost es = lowCost (es.drop k)) ∧ Below w.heap.size w wr) (fun i _ => es.length - (intOf i).toNat)
    case atStart => exact ⟨0, Nat.zero_le _, rfl, rfl, hb⟩
    case round =>
      clear hc1 hf1 hz1 hb1 hb
      obtain ⟨k, hk, rfl, hrest, hb⟩ := hrel
      have hsz := hb.size
      by_cases hlt : k < es.length
      · obtain ⟨b, o, rfl, hbB, c0, c1, c2⟩ := hE.out.ed k hlt
        rw [← hb.cell (by simp; omega)] at c0 c1 c2
        go_wp2
        all_goals first
          | (go_ret
             refine ⟨ret_int ?_, up_alloc hb hsz⟩
             rw [hr.out, hrest.out, low_hit hlt (by omega)]
             rfl)
          | (go_roundw
             case rel => exact ⟨k + 1, by omega, by go_num, by rw [Hid, hrest.out]; exact low_miss hlt (by omega), up_alloc hb hsz⟩
             case measure => simp [intOf]; omega)
      · go_wp2
        go_ret
        refine ⟨ret_int ?_, hb⟩
        rw [hr.out, hrest.out, List.drop_eq_nil_of_le (by omega)]
        rfl
  · have q0 : (netErr N es != 0) = true := by simp [h0]
    have hr := hide (show posErr N es = netErr N es by simp [posErr, h0])
    have hC := hide (fun w hB hE => check_any N a cap es w B hB hE hl)
    clear h0
    go_enter Try.func97, Try.ntmps97
    go_wp2_with fail
    refine (hC.out _ (by simp; omega) (hE.out.below ((by repeat (first | with_reducible exact Below.refl _ _ | with_reducible assumption | with_reducible refine up_drewN ?_ | with_reducible refine up_drew ?_ | (with_reducible refine up_alloc ?_ ?_; rotate_left; (first | omega | (simp <;> omega) | simp)) | (with_reducible refine up_set ?_ ?_; rotate_left; (first | omega | (simp <;> omega) | simp)) | (with_reducible refine Below.trans ?_ (Below.mono (by with_reducible assumption) ?_); rotate_left; (first | omega | (simp <;> omega) | simp)))) : Below w.heap.size w _) hB)).mono ?_
    rintro e w1 ⟨rfl, hb1⟩
    go_wp2
    go_ret
    exact ⟨ret_int hr.out.symm, (by repeat (first | with_reducible exact Below.refl _ _ | with_reducible assumption | with_reducible refine up_drewN ?_ | with_reducible refine up_drew ?_ | (with_reducible refine up_alloc ?_ ?_; rotate_left; (first | omega | (simp <;> omega) | simp)) | (with_reducible refine up_set ?_ ?_; rotate_left; (first | omega | (simp <;> omega) | simp)) | (with_reducible refine Below.trans ?_ (Below.mono (by with_reducible assumption) ?_); rotate_left; (first | omega | (simp <;> omega) | simp))))⟩

theorem rpos1_any (e : Ed) (w : World) : Calls Try.prog 146 #[.agg #[.int .i64 e.u, .int .i64 e.v, .int .i64 e.c]] w fun e' w' => e' = .returned (.bool (decide (e.c < 1))) ∧ Below w.heap.size w w' := by
  have hd : decide (e.c ≤ 0) = decide (e.c < 1) := by rw [decide_eq_decide]; omega
  replace hd := hide hd
  go_enter Try.func146, Try.ntmps146
  go_wp2
  go_ret
  exact ⟨ret_bool hd.out, (by repeat (first | with_reducible exact Below.refl _ _ | with_reducible assumption | with_reducible refine up_drewN ?_ | with_reducible refine up_drew ?_ | (with_reducible refine up_alloc ?_ ?_; rotate_left; (first | omega | (simp <;> omega) | simp)) | (with_reducible refine up_set ?_ ?_; rotate_left; (first | omega | (simp <;> omega) | simp)) | (with_reducible refine Below.trans ?_ (Below.mono (by with_reducible assumption) ?_); rotate_left; (first | omega | (simp <;> omega) | simp))))⟩

def posIdx (es : List Ed) (k : Nat) : Int := match es with | [] => -1 | e :: r => if e.c < 1 then (k : Int) else posIdx r (k + 1)
theorem pidx_hit {es : List Ed} {k : Nat} (h : k < es.length) (hc : es[k].c < 1) : posIdx (es.drop k) k = k := by
  rw [List.drop_eq_getElem_cons h, posIdx, if_pos hc]
theorem pidx_miss {es : List Ed} {k : Nat} (h : k < es.length) (hc : ¬ es[k].c < 1) : posIdx (es.drop k) k = posIdx (es.drop (k + 1)) (k + 1) := by
  rw [List.drop_eq_getElem_cons h, posIdx, if_neg hc]
theorem pidx_low : ∀ (es : List Ed) (k : Nat), (decide (0 ≤ posIdx es k)) = lowCost es
  | [], _ => rfl
  | e :: r, k => by
    rw [posIdx, lowCost]
    split
    · simp
    · exact pidx_low r (k + 1)
theorem ixfunc_any (a : Option Addr) (cap : Nat) (es : List Ed) (w : World) (B : Nat) (hB : B ≤ w.heap.size) (hE : Row encE 3 w B a es) (hl : es.length ≤ 9223372036854775807) :
    Calls Try.prog 135 #[.slice a es.length cap, .func (.func 146) #[] #[]] w fun e w' => e = .returned (.int .i64 (posIdx es 0)) ∧ Below w.heap.size w w' := by
  have hE := hide hE
  go_enter Try.func135, Try.ntmps135
  go_wp2
  go_loopw [8] (fun i wr => ∃ k : Nat, k ≤ es.length ∧ i = .int .i64 k ∧ Hid (posIdx es 0 = posIdx (es.drop k) k) ∧ Below w.heap.size w wr) (fun i _ => es.length - (intOf i).toNat)
  case atStart => exact ⟨0, Nat.zero_le _, rfl, rfl, Below.refl _ _⟩
  case round =>
    obtain ⟨k, hk, rfl, hrest, hb⟩ := hrel
    by_cases hlt : k < es.length
    · obtain ⟨b, o, rfl, hbB, c0, c1, c2⟩ := hE.out.ed k hlt
      rw [← hb.cell (by simp; omega)] at c0 c1 c2
      by_cases hc : es[k].c < 1
      · have hR := fun w => rpos1_any es[k] w
        have hd : decide (es[k].c < 1) = true := by simpa using hc
        rw [hd] at hR
        replace hR := hide hR
        have hc := hide hc
        go_wp2_with fail
        refine (hR.out _).mono ?_
        rintro e w1 ⟨rfl, hb1⟩
        go_wp2
        go_ret
        refine ⟨ret_int ?_, hb.trans (hb1.mono hb.size)⟩
        rw [hrest.out, pidx_hit hlt hc.out]
      · have hR := fun w => rpos1_any es[k] w
        have hd : decide (es[k].c < 1) = false := by simpa using hc
        rw [hd] at hR
        replace hR := hide hR
        have hc := hide hc
        go_wp2_with fail
        refine (hR.out _).mono ?_
        rintro e w1 ⟨rfl, hb1⟩
        go_wp2
        go_roundw
        case rel => exact ⟨k + 1, by omega, by go_num, by rw [Hid, hrest.out]; exact pidx_miss hlt (by have := hc.out; omega), hb.trans (hb1.mono hb.size)⟩
        case measure => simp [intOf]; omega
    · go_wp2
      go_ret
      refine ⟨ret_int ?_, hb⟩
      rw [hrest.out, List.drop_eq_nil_of_le (by omega)]
      rfl

theorem cfunc_any (a : Option Addr) (cap : Nat) (es : List Ed) (w : World) (B : Nat) (hB : B ≤ w.heap.size) (hE : Row encE 3 w B a es) (hl : es.length ≤ 9223372036854775807) :
    Calls Try.prog 85 #[.slice a es.length cap, .func (.func 146) #[] #[]] w fun e w' => e = .returned (.bool (lowCost es)) ∧ Below w.heap.size w w' := by
  have hl2 := hide (pidx_low es 0)
  have hE := hide hE
  go_enter Try.func85, Try.ntmps85
  go_wp2_with fail
  refine (ixfunc_any a cap es w B hB hE.out hl).mono ?_
  rintro e w1 ⟨rfl, hb1⟩
  go_wp2
  go_ret
  exact ⟨ret_bool hl2.out, hb1⟩

theorem rpos_any (N : Int) (a : Option Addr) (cap : Nat) (es : List Ed) (w : World) (B : Nat) (hB : B ≤ w.heap.size) (hE : Row encE 3 w B a es) (hl : es.length ≤ 9223372036854775807) :
    Calls Try.prog 101 #[.agg #[.int .i64 N, .slice a es.length cap]] w fun e w' => e = .returned (.int .i64 (posErr N es)) ∧ Below w.heap.size w w' := by
  have hE := hide hE
  have hC := fun w hB hE => rnet_any N a cap es w B hB hE hl
  by_cases h0 : netErr N es = 0
  · rw [h0] at hC
    have hr := hide (show posErr N es = if lowCost es then 4 else 0 by simp [posErr, h0])
    replace hC := hide hC
    clear h0
    have hK := fun w hB hE => cfunc_any a cap es w B hB hE hl
    by_cases hb : lowCost es = true
    · rw [hb] at hK
      replace hK := hide hK
      replace hb := hide hb
      go_enter Try.func101, Try.ntmps101
      go_wp2_with fail
      refine (hC.out _ (by simp; omega) (hE.out.below ((by repeat (first | with_reducible exact Below.refl _ _ | with_reducible assumption | with_reducible refine up_drewN ?_ | with_reducible refine up_drew ?_ | (with_reducible refine up_alloc ?_ ?_; rotate_left; (first | omega | (simp <;> omega) | simp)) | (with_reducible refine up_set ?_ ?_; rotate_left; (first | omega | (simp <;> omega) | simp)) | (with_reducible refine Below.trans ?_ (Below.mono (by with_reducible assumption) ?_); rotate_left; (first | omega | (simp <;> omega) | simp)))) : Below w.heap.size w _) hB)).mono ?_
      rintro e w1 ⟨rfl, hb1⟩
      obtain ⟨hc1, hf1⟩ := bcell hb1; have hz1 : w.heap.size < w1.heap.size := (by have := hb1.size; (try simp at this); omega)
      go_wp2_with fail
      refine (hK.out _ (by omega) (hE.out.below ((by repeat (first | with_reducible exact Below.refl _ _ | with_reducible assumption | with_reducible refine up_drewN ?_ | with_reducible refine up_drew ?_ | (with_reducible refine up_alloc ?_ ?_; rotate_left; (first | omega | (simp <;> omega) | simp)) | (with_reducible refine up_set ?_ ?_; rotate_left; (first | omega | (simp <;> omega) | simp)) | (with_reducible refine Below.trans ?_ (Below.mono (by with_reducible assumption) ?_); rotate_left; (first | omega | (simp <;> omega) | simp)))) : Below w.heap.size w _) hB)).mono ?_
      rintro e w2 ⟨rfl, hb2⟩
      go_wp2
      go_ret
      exact ⟨ret_int (by rw [hr.out, hb.out]; rfl), (by repeat (first | with_reducible exact Below.refl _ _ | with_reducible assumption | with_reducible refine up_drewN ?_ | with_reducible refine up_drew ?_ | (with_reducible refine up_alloc ?_ ?_; rotate_left; (first | omega | (simp <;> omega) | simp)) | (with_reducible refine up_set ?_ ?_; rotate_left; (first | omega | (simp <;> omega) | simp)) | (with_reducible refine Below.trans ?_ (Below.mono (by with_reducible assumption) ?_); rotate_left; (first | omega | (simp <;> omega) | simp))))⟩
    · rw [Bool.not_eq_true] at hb
      rw [hb] at hK
      replace hK := hide hK
      replace hb := hide hb
      go_enter Try.func101, Try.ntmps101
      go_wp2_with fail
      refine (hC.out _ (by simp; omega) (hE.out.below ((by repeat (first | with_reducible exact Below.refl _ _ | with_reducible assumption | with_reducible refine up_drewN ?_ | with_reducible refine up_drew ?_ | (with_reducible refine up_alloc ?_ ?_; rotate_left; (first | omega | (simp <;> omega) | simp)) | (with_reducible refine up_set ?_ ?_; rotate_left; (first | omega | (simp <;> omega) | simp)) | (with_reducible refine Below.trans ?_ (Below.mono (by with_reducible assumption) ?_); rotate_left; (first | omega | (simp <;> omega) | simp)))) : Below w.heap.size w _) hB)).mono ?_
      rintro e w1 ⟨rfl, hb1⟩
      obtain ⟨hc1, hf1⟩ := bcell hb1; have hz1 : w.heap.size < w1.heap.size := (by have := hb1.size; (try simp at this); omega)
      go_wp2_with fail
      refine (hK.out _ (by omega) (hE.out.below ((by repeat (first | with_reducible exact Below.refl _ _ | with_reducible assumption | with_reducible refine up_drewN ?_ | with_reducible refine up_drew ?_ | (with_reducible refine up_alloc ?_ ?_; rotate_left; (first | omega | (simp <;> omega) | simp)) | (with_reducible refine up_set ?_ ?_; rotate_left; (first | omega | (simp <;> omega) | simp)) | (with_reducible refine Below.trans ?_ (Below.mono (by with_reducible assumption) ?_); rotate_left; (first | omega | (simp <;> omega) | simp)))) : Below w.heap.size w _) hB)).mono ?_
      rintro e w2 ⟨rfl, hb2⟩
      go_wp2
      go_ret
      exact ⟨ret_int (by rw [hr.out, hb.out]; rfl), (by repeat (first | with_reducible exact Below.refl _ _ | with_reducible assumption | with_reducible refine up_drewN ?_ | with_reducible refine up_drew ?_ | (with_reducible refine up_alloc ?_ ?_; rotate_left; (first | omega | (simp <;> omega) | simp)) | (with_reducible refine up_set ?_ ?_; rotate_left; (first | omega | (simp <;> omega) | simp)) | (with_reducible refine Below.trans ?_ (Below.mono (by with_reducible assumption) ?_); rotate_left; (first | omega | (simp <;> omega) | simp))))⟩
  · have q0 : (netErr N es != 0) = true := by simp [h0]
    have hr := hide (show posErr N es = netErr N es by simp [posErr, h0])
    replace hC := hide hC
    clear h0
    go_enter Try.func101, Try.ntmps101
    go_wp2_with fail
    refine (hC.out _ (by simp; omega) (hE.out.below ((by repeat (first | with_reducible exact Below.refl _ _ | with_reducible assumption | with_reducible refine up_drewN ?_ | with_reducible refine up_drew ?_ | (with_reducible refine up_alloc ?_ ?_; rotate_left; (first | omega | (simp <;> omega) | simp)) | (with_reducible refine up_set ?_ ?_; rotate_left; (first | omega | (simp <;> omega) | simp)) | (with_reducible refine Below.trans ?_ (Below.mono (by with_reducible assumption) ?_); rotate_left; (first | omega | (simp <;> omega) | simp)))) : Below w.heap.size w _) hB)).mono ?_
    rintro e w1 ⟨rfl, hb1⟩
    go_wp2
    go_ret
    exact ⟨ret_int hr.out.symm, (by repeat (first | with_reducible exact Below.refl _ _ | with_reducible assumption | with_reducible refine up_drewN ?_ | with_reducible refine up_drew ?_ | (with_reducible refine up_alloc ?_ ?_; rotate_left; (first | omega | (simp <;> omega) | simp)) | (with_reducible refine up_set ?_ ?_; rotate_left; (first | omega | (simp <;> omega) | simp)) | (with_reducible refine Below.trans ?_ (Below.mono (by with_reducible assumption) ?_); rotate_left; (first | omega | (simp <;> omega) | simp))))⟩

end Go.Proofs.Ytgkiipmeigfjnaa
