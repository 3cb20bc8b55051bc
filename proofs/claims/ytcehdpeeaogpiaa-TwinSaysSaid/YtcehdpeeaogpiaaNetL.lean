/-
  Several texts in one:
  What the checks of a net return: net.Check, and the reference's Net. No condition but that the slice reads.
  What net.Pos and the reference's Pos return: is a net right, and are its costs above 0? No condition but that the slice reads.
  What dijk.Look and the reference's Look return. Condition: the slices read.
-/
import Derived.Test.YtcehdpeeaogpiaaBase
import Derived.BigQuiet
import Derived.Deep.QuietTactic
import Derived.WalkSpells
import Derived.WalkLawsBesides
import Derived.LoopTactic
/-! What the checks of a net return: net.Check, and the reference's Net. No condition but that the slice reads. -/
namespace Go.Proofs.Ytcehdpeeaogpiaa
open Go.RowKit
set_option linter.unusedSimpArgs false
set_option linter.unusedVariables false

def edErr (N : Int) (e : Ed) : Int := if e.u < 0 ∨ e.u ≥ N ∨ e.v < 0 ∨ e.v ≥ N then 1 else if e.c < -10000 ∨ e.c > 10000 then 4 else 0
def edsErr (N : Int) : List Ed → Int | [] => 0 | e :: r => if edErr N e ≠ 0 then edErr N e else edsErr N r
def netErr (N : Int) (es : List Ed) : Int := if N < 1 ∨ N > 64 then 1 else if es.length > 600 then 2 else edsErr N es
theorem edsErr_hit {N : Int} {es : List Ed} {k : Nat} (h : k < es.length) (x : Int) (hx : x ≠ 0) (he : edErr N es[k] = x) : edsErr N (es.drop k) = x := by
  rw [List.drop_eq_getElem_cons h, edsErr, he, if_pos hx]
theorem edsErr_miss {N : Int} {es : List Ed} {k : Nat} (h : k < es.length) (he : edErr N es[k] = 0) : edsErr N (es.drop k) = edsErr N (es.drop (k+1)) := by
  rw [List.drop_eq_getElem_cons h, edsErr, he, if_neg (by simp)]
theorem edsErr_all {N : Int} : ∀ {es : List Ed}, edsErr N es = 0 → ∀ e ∈ es, 0 ≤ e.u ∧ e.u < N ∧ 0 ≤ e.v ∧ e.v < N ∧ -10000 ≤ e.c ∧ e.c ≤ 10000
  | [], _, e, he => by cases he
  | x :: r, h, e, he => by
    rw [edsErr] at h
    split at h
    · omega
    · rename_i g
      have g : edErr N x = 0 := by omega
      cases he with
      | head => unfold edErr at g; split at g; · omega
                split at g <;> omega
      | tail _ hm => exact edsErr_all h e hm
theorem netErr_ok {N : Int} {es : List Ed} (h : netErr N es = 0) : 1 ≤ N ∧ N ≤ 64 ∧ es.length ≤ 600 ∧ ∀ e ∈ es, 0 ≤ e.u ∧ e.u < N ∧ 0 ≤ e.v ∧ e.v < N ∧ -10000 ≤ e.c ∧ e.c ≤ 10000 := by
  unfold netErr at h
  split at h
  · omega
  · split at h
    · omega
    · exact ⟨by omega, by omega, by omega, edsErr_all h⟩

theorem check_any (N : Int) (a : Option Addr) (cap : Nat) (es : List Ed) (w : World) (B : Nat) (hB : B ≤ w.heap.size) (hE : Row encE 3 w B a es) (hl : es.length ≤ 9223372036854775807) :
    Calls Try.prog 80 #[.agg #[.int .i64 N, .slice a es.length cap]] w fun e w' => e = .returned (.int .i64 (netErr N es)) ∧ Below w.heap.size w w' := by
  by_cases h1 : N < 1
  · have hr : Hid (netErr N es = 1) := by simp [Hid, netErr, h1]
    go_enter Try.func80, Try.ntmps80
    go_wp2
    go_ret
    exact ⟨ret_int hr.out.symm, (Below.refl _ _).alloc (Nat.le_refl _) _⟩
  by_cases h2 : 64 < N
  · have hr : Hid (netErr N es = 1) := by simp [Hid, netErr, h2]
    go_enter Try.func80, Try.ntmps80
    go_wp2
    go_ret
    exact ⟨ret_int hr.out.symm, (Below.refl _ _).alloc (Nat.le_refl _) _⟩
  by_cases h3 : 600 < (es.length : Int)
  · have hr : Hid (netErr N es = 2) := by simp only [Hid, netErr]; rw [if_neg (by omega), if_pos (by omega)]
    go_enter Try.func80, Try.ntmps80
    go_wp2
    go_ret
    exact ⟨ret_int hr.out.symm, (Below.refl _ _).alloc (Nat.le_refl _) _⟩
  have hr : Hid (netErr N es = edsErr N es) := by simp only [Hid, netErr]; rw [if_neg (by omega), if_neg (by omega)]
  go_enter Try.func80, Try.ntmps80
  go_wp2
  go_loopw [20] (fun i wr => ∃ k : Nat, k ≤ es.length ∧ i = .int .i64 k ∧ Hid (edsErr N es = edsErr N (es.drop k)) ∧ wr.cell? ⟨w.heap.size, 0, none⟩ = some (.int .i64 N) ∧ Below w.heap.size w wr ∧ w.heap.size < wr.heap.size) (fun i _ => es.length - (intOf i).toNat)
  case atStart => exact ⟨0, Nat.zero_le _, rfl, rfl, by simp, (Below.refl _ _).alloc (Nat.le_refl _) _, by simp⟩
  case round =>
    obtain ⟨k, hk, rfl, hrest, hN, hb, hsz⟩ := hrel
    by_cases hlt : k < es.length
    · obtain ⟨b, o, rfl, hbB, c0, c1, c2⟩ := hE.ed k hlt
      rw [← hb.cell (by simp; omega)] at c0 c1 c2
      go_wp2
      all_goals first
        | (go_ret
           refine ⟨ret_int ?_, hb.alloc (by omega) _⟩
           rw [hr.out, hrest.out]
           first
             | exact (edsErr_hit hlt 1 (by omega) (by simp only [edErr]; rw [if_pos (by omega)])).symm
             | exact (edsErr_hit hlt 4 (by omega) (by simp only [edErr]; rw [if_neg (by omega), if_pos (by omega)])).symm)
        | (go_roundw
           case rel => exact ⟨k + 1, by omega, by go_num, by rw [Hid, hrest.out]; exact edsErr_miss hlt (by simp only [edErr]; rw [if_neg (by omega), if_neg (by omega)]), cell_alloc hN hsz _, hb.alloc (by omega) _, lt_alloc hsz _⟩
           case measure => simp [intOf]; omega)
    · go_wp2
      go_ret
      refine ⟨ret_int ?_, hb⟩
      rw [hr.out, hrest.out, List.drop_eq_nil_of_le (by omega)]
      rfl

theorem rnet_any (N : Int) (a : Option Addr) (cap : Nat) (es : List Ed) (w : World) (B : Nat) (hB : B ≤ w.heap.size) (hE : Row encE 3 w B a es) (hl : es.length ≤ 9223372036854775807) :
    Calls Try.prog 35 #[.agg #[.int .i64 N, .slice a es.length cap]] w fun e w' => e = .returned (.int .i64 (netErr N es)) ∧ Below w.heap.size w w' := by
  by_cases h1 : N < 1
  · have hr : Hid (netErr N es = 1) := by simp [Hid, netErr, h1]
    go_enter Try.func35, Try.ntmps35
    go_wp2
    go_ret
    exact ⟨ret_int hr.out.symm, (Below.refl _ _).alloc (Nat.le_refl _) _⟩
  by_cases h2 : 64 < N
  · have hr : Hid (netErr N es = 1) := by simp [Hid, netErr, h2]
    go_enter Try.func35, Try.ntmps35
    go_wp2
    go_ret
    exact ⟨ret_int hr.out.symm, (Below.refl _ _).alloc (Nat.le_refl _) _⟩
  by_cases h3 : 600 < (es.length : Int)
  · have hr : Hid (netErr N es = 2) := by simp only [Hid, netErr]; rw [if_neg (by omega), if_pos (by omega)]
    go_enter Try.func35, Try.ntmps35
    go_wp2
    go_ret
    exact ⟨ret_int hr.out.symm, (Below.refl _ _).alloc (Nat.le_refl _) _⟩
  have hr : Hid (netErr N es = edsErr N es) := by simp only [Hid, netErr]; rw [if_neg (by omega), if_neg (by omega)]
  go_enter Try.func35, Try.ntmps35
  go_wp2
  go_loopw [20] (fun i wr => ∃ k : Nat, k ≤ es.length ∧ i = .int .i64 k ∧ Hid (edsErr N es = edsErr N (es.drop k)) ∧ wr.cell? ⟨w.heap.size, 0, none⟩ = some (.int .i64 N) ∧ Below w.heap.size w wr ∧ w.heap.size < wr.heap.size) (fun i _ => es.length - (intOf i).toNat)
  case atStart => exact ⟨0, Nat.zero_le _, rfl, rfl, by simp, (Below.refl _ _).alloc (Nat.le_refl _) _, by simp⟩
  case round =>
    obtain ⟨k, hk, rfl, hrest, hN, hb, hsz⟩ := hrel
    by_cases hlt : k < es.length
    · obtain ⟨b, o, rfl, hbB, c0, c1, c2⟩ := hE.ed k hlt
      rw [← hb.cell (by simp; omega)] at c0 c1 c2
      go_wp2
      all_goals first
        | (go_ret
           refine ⟨ret_int ?_, hb.alloc (by omega) _⟩
           rw [hr.out, hrest.out]
           first
             | exact (edsErr_hit hlt 1 (by omega) (by simp only [edErr]; rw [if_pos (by omega)])).symm
             | exact (edsErr_hit hlt 4 (by omega) (by simp only [edErr]; rw [if_neg (by omega), if_pos (by omega)])).symm)
        | (go_roundw
           case rel => exact ⟨k + 1, by omega, by go_num, by rw [Hid, hrest.out]; exact edsErr_miss hlt (by simp only [edErr]; rw [if_neg (by omega), if_neg (by omega)]), cell_alloc hN hsz _, hb.alloc (by omega) _, lt_alloc hsz _⟩
           case measure => simp [intOf]; omega)
    · go_wp2
      go_ret
      refine ⟨ret_int ?_, hb⟩
      rw [hr.out, hrest.out, List.drop_eq_nil_of_le (by omega)]
      rfl

end Go.Proofs.Ytcehdpeeaogpiaa

/-! What net.Pos and the reference's Pos return: is a net right, and are its costs above 0? No condition but that the slice reads. -/
namespace Go.Proofs.Ytcehdpeeaogpiaa
open Go.RowKit
set_option linter.unusedSimpArgs false
set_option linter.unusedVariables false

def lowCost : List Ed → Bool | [] => false | e :: r => if e.c < 1 then true else lowCost r
def posErr (N : Int) (es : List Ed) : Int := if netErr N es ≠ 0 then netErr N es else if lowCost es then 4 else 0
theorem low_hit {es : List Ed} {k : Nat} (h : k < es.length) (hc : es[k].c < 1) : lowCost (es.drop k) = true := by
  rw [List.drop_eq_getElem_cons h, lowCost, if_pos hc]
theorem low_miss {es : List Ed} {k : Nat} (h : k < es.length) (hc : ¬ es[k].c < 1) : lowCost (es.drop k) = lowCost (es.drop (k + 1)) := by
  rw [List.drop_eq_getElem_cons h, lowCost, if_neg hc]
theorem low_no : ∀ {es : List Ed}, lowCost es = false → ∀ e ∈ es, 1 ≤ e.c
  | [], _, e, he => by cases he
  | x :: r, h, e, he => by
    rw [lowCost] at h
    split at h
    · cases h
    · cases he with
      | head => omega
      | tail _ hm => exact low_no h e hm
theorem posErr_ok {N : Int} {es : List Ed} (h : posErr N es = 0) : netErr N es = 0 ∧ ∀ e ∈ es, 1 ≤ e.c := by
  unfold posErr at h
  split at h
  · omega
  · split at h
    · omega
    · exact ⟨by omega, low_no (by simpa using ‹¬ lowCost es = true›)⟩

theorem pos_any (N : Int) (a : Option Addr) (cap : Nat) (es : List Ed) (w : World) (B : Nat) (hB : B ≤ w.heap.size) (hE : Row encE 3 w B a es) (hl : es.length ≤ 9223372036854775807) :
    Calls Try.prog 91 #[.agg #[.int .i64 N, .slice a es.length cap]] w fun e w' => e = .returned (.int .i64 (posErr N es)) ∧ Below w.heap.size w w' := by
  have hE := hide hE
  by_cases h0 : netErr N es = 0
  · obtain ⟨n1, n2, n3, _⟩ := netErr_ok h0
    have hC := fun w hB hE => check_any N a cap es w B hB hE hl
    rw [h0] at hC
    have hr := hide (show posErr N es = if lowCost es then 4 else 0 by simp [posErr, h0])
    replace hC := hide hC
    clear h0
    go_enter Try.func91, Try.ntmps91
    go_wp2_with fail
    refine (hC.out _ (by simp; omega) (hE.out.below ((by repeat (first | with_reducible exact Below.refl _ _ | with_reducible assumption | with_reducible refine up_drewN ?_ | with_reducible refine up_drew ?_ | (with_reducible refine up_alloc ?_ ?_; rotate_left; (first | omega | (simp <;> omega) | simp)) | (with_reducible refine up_set ?_ ?_; rotate_left; (first | omega | (simp <;> omega) | simp)) | (with_reducible refine Below.trans ?_ (Below.mono (by with_reducible assumption) ?_); rotate_left; (first | omega | (simp <;> omega) | simp)))) : Below w.heap.size w _) hB)).mono ?_
    rintro e w1 ⟨rfl, hb1⟩
    obtain ⟨hc1, hf1⟩ := bcell hb1; have hz1 : w.heap.size < w1.heap.size := (by have := hb1.size; (try simp at this); omega)
    have hb : Below w.heap.size w w1 := (by repeat (first | with_reducible exact Below.refl _ _ | with_reducible assumption | with_reducible refine up_drewN ?_ | with_reducible refine up_drew ?_ | (with_reducible refine up_alloc ?_ ?_; rotate_left; (first | omega | (simp <;> omega) | simp)) | (with_reducible refine up_set ?_ ?_; rotate_left; (first | omega | (simp <;> omega) | simp)) | (with_reducible refine Below.trans ?_ (Below.mono (by with_reducible assumption) ?_); rotate_left; (first | omega | (simp <;> omega) | simp))))
    go_wp2
    go_loopw [14] (fun i wr => ∃ k : Nat, k ≤ es.length ∧ i = .int .i64 k ∧ Hid (lowCost es = lowCost (es.drop k)) ∧ Below w.heap.size w wr) (fun i _ => es.length - (intOf i).toNat)
    case atStart => exact ⟨0, Nat.zero_le _, rfl, rfl, hb⟩
    case round =>
      clear hc1 hf1 hz1 hb1 hb
      obtain ⟨k, hk, rfl, hrest, hb⟩ := hrel
      have hsz := hb.size
      by_cases hlt : k < es.length
      · obtain ⟨b, o, rfl, hbB, c0, c1, c2⟩ := hE.out.ed k hlt
        rw [← hb.cell (by simp; omega)] at c0 c1 c2
        go_wp2
        all_goals first
          | (go_ret
             refine ⟨ret_int ?_, up_alloc hb hsz⟩
             rw [hr.out, hrest.out, low_hit hlt (by omega)]
             rfl)
          | (go_roundw
             case rel => exact ⟨k + 1, by omega, by go_num, by rw [Hid, hrest.out]; exact low_miss hlt (by omega), up_alloc hb hsz⟩
             case measure => simp [intOf]; omega)
      · go_wp2
        go_ret
        refine ⟨ret_int ?_, hb⟩
        rw [hr.out, hrest.out, List.drop_eq_nil_of_le (by omega)]
        rfl
  · have q0 : (netErr N es != 0) = true := by simp [h0]
    have hr := hide (show posErr N es = netErr N es by simp [posErr, h0])
    have hC := hide (fun w hB hE => check_any N a cap es w B hB hE hl)
    clear h0
    go_enter Try.func91, Try.ntmps91
    go_wp2_with fail
    refine (hC.out _ (by simp; omega) (hE.out.below ((by repeat (first | with_reducible exact Below.refl _ _ | with_reducible assumption | with_reducible refine up_drewN ?_ | with_reducible refine up_drew ?_ | (with_reducible refine up_alloc ?_ ?_; rotate_left; (first | omega | (simp <;> omega) | simp)) | (with_reducible refine up_set ?_ ?_; rotate_left; (first | omega | (simp <;> omega) | simp)) | (with_reducible refine Below.trans ?_ (Below.mono (by with_reducible assumption) ?_); rotate_left; (first | omega | (simp <;> omega) | simp)))) : Below w.heap.size w _) hB)).mono ?_
    rintro e w1 ⟨rfl, hb1⟩
    go_wp2
    go_ret
    exact ⟨ret_int hr.out.symm, (by repeat (first | with_reducible exact Below.refl _ _ | with_reducible assumption | with_reducible refine up_drewN ?_ | with_reducible refine up_drew ?_ | (with_reducible refine up_alloc ?_ ?_; rotate_left; (first | omega | (simp <;> omega) | simp)) | (with_reducible refine up_set ?_ ?_; rotate_left; (first | omega | (simp <;> omega) | simp)) | (with_reducible refine Below.trans ?_ (Below.mono (by with_reducible assumption) ?_); rotate_left; (first | omega | (simp <;> omega) | simp))))⟩

theorem rpos1_any (e : Ed) (w : World) : Calls Try.prog 184 #[.agg #[.int .i64 e.u, .int .i64 e.v, .int .i64 e.c]] w fun e' w' => e' = .returned (.bool (decide (e.c < 1))) ∧ Below w.heap.size w w' := by
  have hd : decide (e.c ≤ 0) = decide (e.c < 1) := by rw [decide_eq_decide]; omega
  replace hd := hide hd
  go_enter Try.func184, Try.ntmps184
  go_wp2
  go_ret
  exact ⟨ret_bool hd.out, (by repeat (first | with_reducible exact Below.refl _ _ | with_reducible assumption | with_reducible refine up_drewN ?_ | with_reducible refine up_drew ?_ | (with_reducible refine up_alloc ?_ ?_; rotate_left; (first | omega | (simp <;> omega) | simp)) | (with_reducible refine up_set ?_ ?_; rotate_left; (first | omega | (simp <;> omega) | simp)) | (with_reducible refine Below.trans ?_ (Below.mono (by with_reducible assumption) ?_); rotate_left; (first | omega | (simp <;> omega) | simp))))⟩

def posIdx (es : List Ed) (k : Nat) : Int := match es with | [] => -1 | e :: r => if e.c < 1 then (k : Int) else posIdx r (k + 1)
theorem pidx_hit {es : List Ed} {k : Nat} (h : k < es.length) (hc : es[k].c < 1) : posIdx (es.drop k) k = k := by
  rw [List.drop_eq_getElem_cons h, posIdx, if_pos hc]
theorem pidx_miss {es : List Ed} {k : Nat} (h : k < es.length) (hc : ¬ es[k].c < 1) : posIdx (es.drop k) k = posIdx (es.drop (k + 1)) (k + 1) := by
  rw [List.drop_eq_getElem_cons h, posIdx, if_neg hc]
theorem pidx_low : ∀ (es : List Ed) (k : Nat), (decide (0 ≤ posIdx es k)) = lowCost es
  | [], _ => rfl
  | e :: r, k => by
    rw [posIdx, lowCost]
    split
    · simp
    · exact pidx_low r (k + 1)
theorem ixfunc_any (a : Option Addr) (cap : Nat) (es : List Ed) (w : World) (B : Nat) (hB : B ≤ w.heap.size) (hE : Row encE 3 w B a es) (hl : es.length ≤ 9223372036854775807) :
    Calls Try.prog 88 #[.slice a es.length cap, .func (.func 184) #[] #[]] w fun e w' => e = .returned (.int .i64 (posIdx es 0)) ∧ Below w.heap.size w w' := by
  have hE := hide hE
  go_enter Try.func88, Try.ntmps88
  go_wp2
  go_loopw [8] (fun i wr => ∃ k : Nat, k ≤ es.length ∧ i = .int .i64 k ∧ Hid (posIdx es 0 = posIdx (es.drop k) k) ∧ Below w.heap.size w wr) (fun i _ => es.length - (intOf i).toNat)
  case atStart => exact ⟨0, Nat.zero_le _, rfl, rfl, Below.refl _ _⟩
  case round =>
    obtain ⟨k, hk, rfl, hrest, hb⟩ := hrel
    by_cases hlt : k < es.length
    · obtain ⟨b, o, rfl, hbB, c0, c1, c2⟩ := hE.out.ed k hlt
      rw [← hb.cell (by simp; omega)] at c0 c1 c2
      by_cases hc : es[k].c < 1
      · have hR := fun w => rpos1_any es[k] w
        have hd : decide (es[k].c < 1) = true := by simpa using hc
        rw [hd] at hR
        replace hR := hide hR
        have hc := hide hc
        go_wp2_with fail
        refine (hR.out _).mono ?_
        rintro e w1 ⟨rfl, hb1⟩
        go_wp2
        go_ret
        refine ⟨ret_int ?_, hb.trans (hb1.mono hb.size)⟩
        rw [hrest.out, pidx_hit hlt hc.out]
      · have hR := fun w => rpos1_any es[k] w
        have hd : decide (es[k].c < 1) = false := by simpa using hc
        rw [hd] at hR
        replace hR := hide hR
        have hc := hide hc
        go_wp2_with fail
        refine (hR.out _).mono ?_
        rintro e w1 ⟨rfl, hb1⟩
        go_wp2
        go_roundw
        case rel => exact ⟨k + 1, by omega, by go_num, by rw [Hid, hrest.out]; exact pidx_miss hlt (by have := hc.out; omega), hb.trans (hb1.mono hb.size)⟩
        case measure => simp [intOf]; omega
    · go_wp2
      go_ret
      refine ⟨ret_int ?_, hb⟩
      rw [hrest.out, List.drop_eq_nil_of_le (by omega)]
      rfl

theorem cfunc_any (a : Option Addr) (cap : Nat) (es : List Ed) (w : World) (B : Nat) (hB : B ≤ w.heap.size) (hE : Row encE 3 w B a es) (hl : es.length ≤ 9223372036854775807) :
    Calls Try.prog 105 #[.slice a es.length cap, .func (.func 184) #[] #[]] w fun e w' => e = .returned (.bool (lowCost es)) ∧ Below w.heap.size w w' := by
  have hl2 := hide (pidx_low es 0)
  have hE := hide hE
  go_enter Try.func105, Try.ntmps105
  go_wp2_with fail
  refine (ixfunc_any a cap es w B hB hE.out hl).mono ?_
  rintro e w1 ⟨rfl, hb1⟩
  go_wp2
  go_ret
  exact ⟨ret_bool hl2.out, hb1⟩

theorem rpos_any (N : Int) (a : Option Addr) (cap : Nat) (es : List Ed) (w : World) (B : Nat) (hB : B ≤ w.heap.size) (hE : Row encE 3 w B a es) (hl : es.length ≤ 9223372036854775807) :
    Calls Try.prog 120 #[.agg #[.int .i64 N, .slice a es.length cap]] w fun e w' => e = .returned (.int .i64 (posErr N es)) ∧ Below w.heap.size w w' := by
  have hE := hide hE
  have hC := fun w hB hE => rnet_any N a cap es w B hB hE hl
  by_cases h0 : netErr N es = 0
  · rw [h0] at hC
    have hr := hide (show posErr N es = if lowCost es then 4 else 0 by simp [posErr, h0])
    replace hC := hide hC
    clear h0
    have hK := fun w hB hE => cfunc_any a cap es w B hB hE hl
    by_cases hb : lowCost es = true
    · rw [hb] at hK
      replace hK := hide hK
      replace hb := hide hb
      go_enter Try.func120, Try.ntmps120
      go_wp2_with fail
      refine (hC.out _ (by simp; omega) (hE.out.below ((by repeat (first | with_reducible exact Below.refl _ _ | with_reducible assumption | with_reducible refine up_drewN ?_ | with_reducible refine up_drew ?_ | (with_reducible refine up_alloc ?_ ?_; rotate_left; (first | omega | (simp <;> omega) | simp)) | (with_reducible refine up_set ?_ ?_; rotate_left; (first | omega | (simp <;> omega) | simp)) | (with_reducible refine Below.trans ?_ (Below.mono (by with_reducible assumption) ?_); rotate_left; (first | omega | (simp <;> omega) | simp)))) : Below w.heap.size w _) hB)).mono ?_
      rintro e w1 ⟨rfl, hb1⟩
      obtain ⟨hc1, hf1⟩ := bcell hb1; have hz1 : w.heap.size < w1.heap.size := (by have := hb1.size; (try simp at this); omega)
      go_wp2_with fail
      refine (hK.out _ (by omega) (hE.out.below ((by repeat (first | with_reducible exact Below.refl _ _ | with_reducible assumption | with_reducible refine up_drewN ?_ | with_reducible refine up_drew ?_ | (with_reducible refine up_alloc ?_ ?_; rotate_left; (first | omega | (simp <;> omega) | simp)) | (with_reducible refine up_set ?_ ?_; rotate_left; (first | omega | (simp <;> omega) | simp)) | (with_reducible refine Below.trans ?_ (Below.mono (by with_reducible assumption) ?_); rotate_left; (first | omega | (simp <;> omega) | simp)))) : Below w.heap.size w _) hB)).mono ?_
      rintro e w2 ⟨rfl, hb2⟩
      go_wp2
      go_ret
      exact ⟨ret_int (by rw [hr.out, hb.out]; rfl), (by repeat (first | with_reducible exact Below.refl _ _ | with_reducible assumption | with_reducible refine up_drewN ?_ | with_reducible refine up_drew ?_ | (with_reducible refine up_alloc ?_ ?_; rotate_left; (first | omega | (simp <;> omega) | simp)) | (with_reducible refine up_set ?_ ?_; rotate_left; (first | omega | (simp <;> omega) | simp)) | (with_reducible refine Below.trans ?_ (Below.mono (by with_reducible assumption) ?_); rotate_left; (first | omega | (simp <;> omega) | simp))))⟩
    · rw [Bool.not_eq_true] at hb
      rw [hb] at hK
      replace hK := hide hK
      replace hb := hide hb
      go_enter Try.func120, Try.ntmps120
      go_wp2_with fail
      refine (hC.out _ (by simp; omega) (hE.out.below ((by repeat (first | with_reducible exact Below.refl _ _ | with_reducible assumption | with_reducible refine up_drewN ?_ | with_reducible refine up_drew ?_ | (with_reducible refine up_alloc ?_ ?_; rotate_left; (first | omega | (simp <;> omega) | simp)) | (with_reducible refine up_set ?_ ?_; rotate_left; (first | omega | (simp <;> omega) | simp)) | (with_reducible refine Below.trans ?_ (Below.mono (by with_reducible assumption) ?_); rotate_left; (first | omega | (simp <;> omega) | simp)))) : Below w.heap.size w _) hB)).mono ?_
      rintro e w1 ⟨rfl, hb1⟩
      obtain ⟨hc1, hf1⟩ := bcell hb1; have hz1 : w.heap.size < w1.heap.size := (by have := hb1.size; (try simp at this); omega)
      go_wp2_with fail
      refine (hK.out _ (by omega) (hE.out.below ((by repeat (first | with_reducible exact Below.refl _ _ | with_reducible assumption | with_reducible refine up_drewN ?_ | with_reducible refine up_drew ?_ | (with_reducible refine up_alloc ?_ ?_; rotate_left; (first | omega | (simp <;> omega) | simp)) | (with_reducible refine up_set ?_ ?_; rotate_left; (first | omega | (simp <;> omega) | simp)) | (with_reducible refine Below.trans ?_ (Below.mono (by with_reducible assumption) ?_); rotate_left; (first | omega | (simp <;> omega) | simp)))) : Below w.heap.size w _) hB)).mono ?_
      rintro e w2 ⟨rfl, hb2⟩
      go_wp2
      go_ret
      exact ⟨ret_int (by rw [hr.out, hb.out]; rfl), (by repeat (first | with_reducible exact Below.refl _ _ | with_reducible assumption | with_reducible refine up_drewN ?_ | with_reducible refine up_drew ?_ | (with_reducible refine up_alloc ?_ ?_; rotate_left; (first | omega | (simp <;> omega) | simp)) | (with_reducible refine up_set ?_ ?_; rotate_left; (first | omega | (simp <;> omega) | simp)) | (with_reducible refine Below.trans ?_ (Below.mono (by with_reducible assumption) ?_); rotate_left; (first | omega | (simp <;> omega) | simp))))⟩
  · have q0 : (netErr N es != 0) = true := by simp [h0]
    have hr := hide (show posErr N es = netErr N es by simp [posErr, h0])
    replace hC := hide hC
    clear h0
    go_enter Try.func120, Try.ntmps120
    go_wp2_with fail
    refine (hC.out _ (by simp; omega) (hE.out.below ((by repeat (first | with_reducible exact Below.refl _ _ | with_reducible assumption | with_reducible refine up_drewN ?_ | with_reducible refine up_drew ?_ | (with_reducible refine up_alloc ?_ ?_; rotate_left; (first | omega | (simp <;> omega) | simp)) | (with_reducible refine up_set ?_ ?_; rotate_left; (first | omega | (simp <;> omega) | simp)) | (with_reducible refine Below.trans ?_ (Below.mono (by with_reducible assumption) ?_); rotate_left; (first | omega | (simp <;> omega) | simp)))) : Below w.heap.size w _) hB)).mono ?_
    rintro e w1 ⟨rfl, hb1⟩
    go_wp2
    go_ret
    exact ⟨ret_int hr.out.symm, (by repeat (first | with_reducible exact Below.refl _ _ | with_reducible assumption | with_reducible refine up_drewN ?_ | with_reducible refine up_drew ?_ | (with_reducible refine up_alloc ?_ ?_; rotate_left; (first | omega | (simp <;> omega) | simp)) | (with_reducible refine up_set ?_ ?_; rotate_left; (first | omega | (simp <;> omega) | simp)) | (with_reducible refine Below.trans ?_ (Below.mono (by with_reducible assumption) ?_); rotate_left; (first | omega | (simp <;> omega) | simp))))⟩

end Go.Proofs.Ytcehdpeeaogpiaa

/-! What dijk.Look and the reference's Look return. Condition: the slices read. -/
namespace Go.Proofs.Ytcehdpeeaogpiaa
open Go.RowKit
set_option linter.unusedSimpArgs false
set_option linter.unusedVariables false
def plErr (N : Int) : List Int → Int | [] => 0 | x :: r => if x < 0 ∨ N ≤ x then 1 else plErr N r
def lookErr (N : Int) (es : List Ed) (ps : List Int) : Int := if posErr N es ≠ 0 then posErr N es else plErr N ps
theorem pl_hit {N : Int} {ps : List Int} {k : Nat} (h : k < ps.length) (q : ps[k] < 0 ∨ N ≤ ps[k]) : plErr N (ps.drop k) = 1 := by
  rw [List.drop_eq_getElem_cons h, plErr, if_pos q]
theorem pl_miss {N : Int} {ps : List Int} {k : Nat} (h : k < ps.length) (q : ¬ (ps[k] < 0 ∨ N ≤ ps[k])) : plErr N (ps.drop k) = plErr N (ps.drop (k + 1)) := by
  rw [List.drop_eq_getElem_cons h, plErr, if_neg q]
theorem pl_all {N : Int} : ∀ {ps : List Int}, plErr N ps = 0 → ∀ x ∈ ps, 0 ≤ x ∧ x < N
  | [], _, x, hx => by cases hx
  | y :: r, h, x, hx => by
    unfold plErr at h
    split at h
    · omega
    · rename_i q
      rcases List.mem_cons.1 hx with rfl | hx
      · omega
      · exact pl_all h x hx
theorem pl_vals {N : Int} : ∀ (ps : List Int), plErr N ps = 0 ∨ plErr N ps = 1
  | [] => .inl rfl
  | y :: r => by
    unfold plErr
    split
    · exact .inr rfl
    · exact pl_vals r
theorem look_ok {N : Int} {es : List Ed} {ps : List Int} (h : lookErr N es ps = 0) : posErr N es = 0 ∧ ∀ x ∈ ps, 0 ≤ x ∧ x < N := by
  unfold lookErr at h
  by_cases h0 : posErr N es = 0
  · rw [if_neg (by simp [h0])] at h
    exact ⟨h0, pl_all h⟩
  · rw [if_pos h0] at h; exact absurd h h0
theorem look_any (N : Int) (a : Option Addr) (cap : Nat) (es : List Ed) (a1 : Option Addr) (c1 k1 : Nat) (ps : List Int) (hk : ps.length = k1) (w : World) (B : Nat) (hB : B ≤ w.heap.size) (hE : Row encE 3 w B a es) (hP : Row encI 1 w B a1 ps) (hl : es.length ≤ 9223372036854775807) (hl2 : k1 ≤ 9223372036854775807) :
    Calls Try.prog 23 #[.agg #[.int .i64 N, .slice a es.length cap], .slice a1 k1 c1] w fun e w' => e = .returned (.int .i64 (lookErr N es ps)) ∧ Below w.heap.size w w' := by
  subst hk
  by_cases h0 : posErr N es = 0
  · have hr : Hid (lookErr N es ps = plErr N ps) := by simp only [Hid, lookErr]; rw [if_neg (by simp [h0])]
    have hC := hide (fun w hB hE => by have := pos_any N a cap es w B hB hE hl; rw [h0] at this; exact this)
    replace hE := hide hE
    replace hP := hide hP
    clear h0
    go_enter Try.func23, Try.ntmps23
    go_wp2_with fail
    refine (hC.out _ (by simp; omega) (hE.out.below ((by repeat (first | with_reducible exact Below.refl _ _ | with_reducible assumption | with_reducible refine up_drewN ?_ | with_reducible refine up_drew ?_ | (with_reducible refine up_alloc ?_ ?_; rotate_left; (first | omega | (simp <;> omega) | simp)) | (with_reducible refine up_set ?_ ?_; rotate_left; (first | omega | (simp <;> omega) | simp)) | (with_reducible refine Below.trans ?_ (Below.mono (by with_reducible assumption) ?_); rotate_left; (first | omega | (simp <;> omega) | simp)))) : Below w.heap.size w _) hB)).mono ?_
    rintro e w1 ⟨rfl, hb1⟩
    have hz0 : w.heap.size < w1.heap.size := by have := hb1.size; simp at this; omega
    have kN : w1.cell? ⟨w.heap.size, 0, none⟩ = some (.int .i64 N) := cu_below hb1 (by simp [go_sem]) (by simp)
    have hbw := hide (unalloc (hb1.mono (by simp)) (Nat.le_refl _) : Below w.heap.size w w1)
    clear hb1
    go_wp2
    go_loopw [7, 15] (fun _ i wr => ∃ k : Nat, k ≤ ps.length ∧ i = .int .i64 k ∧ Hid (plErr N ps = plErr N (ps.drop k)) ∧ Hid (Below w1.heap.size w1 wr)) (fun _ i _ => ps.length - (intOf i).toNat)
    case atStart => exact ⟨0, Nat.zero_le _, rfl, rfl, Below.refl _ _⟩
    case round =>
      obtain ⟨k, hk, rfl, hrest, hb⟩ := hrel
      have k0 := (hb.out.cell (cell_lt kN)).trans kN
      have hzr := hb.out.size
      have hbr := hide (hbw.out.trans (hb.out.mono hbw.out.size))
      clear kN
      by_cases hlt : k < ps.length
      · obtain ⟨b, o, rfl, hbB, e0⟩ := hP.out.int k hlt
        have e1 := cu_below hbr.out e0 (by simp; omega)
        have hbl := cell_lt e1
        clear e0
        obtain ⟨x, hx⟩ : ∃ x, x = ps[k] := ⟨_, rfl⟩
        rw [← hx] at e1
        replace hx := hide hx
        by_cases q : x < 0 ∨ N ≤ x
        · have hq := hide (pl_hit hlt (by rw [← hx.out]; exact q))
          have q2 : x < 0 ∨ (0 ≤ x ∧ N ≤ x) := by omega
          clear q
          rcases q2 with q | ⟨q0, q⟩
          all_goals
            go_wp2
            go_ret
            exact ⟨ret_int (by rw [hr.out, hrest.out, hq.out]), hbr.out⟩
        · have hq := hide (pl_miss hlt (by rw [← hx.out]; exact q))
          have q1 : 0 ≤ x := by omega
          have q2 : x < N := by omega
          clear q
          go_wp2
          go_roundw
          case rel => exact ⟨k + 1, by omega, by go_num, hide (by rw [hrest.out, hq.out]), hb⟩
          case measure => simp [intOf]; omega
      · go_wp2
        go_ret
        refine ⟨ret_int ?_, hbr.out⟩
        rw [hr.out, hrest.out, List.drop_eq_nil_of_le (by omega)]
        rfl
  · have hr : Hid (lookErr N es ps = posErr N es) := by simp only [Hid, lookErr]; rw [if_pos h0]
    have q0 : (posErr N es != 0) = true := by simp [h0]
    have hC := hide (fun w hB hE => pos_any N a cap es w B hB hE hl)
    replace hE := hide hE
    replace hP := hide hP
    clear h0
    go_enter Try.func23, Try.ntmps23
    go_wp2_with fail
    refine (hC.out _ (by simp; omega) (hE.out.below ((by repeat (first | with_reducible exact Below.refl _ _ | with_reducible assumption | with_reducible refine up_drewN ?_ | with_reducible refine up_drew ?_ | (with_reducible refine up_alloc ?_ ?_; rotate_left; (first | omega | (simp <;> omega) | simp)) | (with_reducible refine up_set ?_ ?_; rotate_left; (first | omega | (simp <;> omega) | simp)) | (with_reducible refine Below.trans ?_ (Below.mono (by with_reducible assumption) ?_); rotate_left; (first | omega | (simp <;> omega) | simp)))) : Below w.heap.size w _) hB)).mono ?_
    rintro e w1 ⟨rfl, hb1⟩
    go_wp2
    go_ret
    exact ⟨ret_int hr.out.symm, (by repeat (first | with_reducible exact Below.refl _ _ | with_reducible assumption | with_reducible refine up_drewN ?_ | with_reducible refine up_drew ?_ | (with_reducible refine up_alloc ?_ ?_; rotate_left; (first | omega | (simp <;> omega) | simp)) | (with_reducible refine up_set ?_ ?_; rotate_left; (first | omega | (simp <;> omega) | simp)) | (with_reducible refine Below.trans ?_ (Below.mono (by with_reducible assumption) ?_); rotate_left; (first | omega | (simp <;> omega) | simp))))⟩
theorem rlook_any (N : Int) (a : Option Addr) (cap : Nat) (es : List Ed) (a1 : Option Addr) (c1 k1 : Nat) (ps : List Int) (hk : ps.length = k1) (w : World) (B : Nat) (hB : B ≤ w.heap.size) (hE : Row encE 3 w B a es) (hP : Row encI 1 w B a1 ps) (hl : es.length ≤ 9223372036854775807) (hl2 : k1 ≤ 9223372036854775807) :
    Calls Try.prog 45 #[.agg #[.int .i64 N, .slice a es.length cap], .slice a1 k1 c1] w fun e w' => e = .returned (.int .i64 (lookErr N es ps)) ∧ Below w.heap.size w w' := by
  subst hk
  by_cases h0 : posErr N es = 0
  · have hr : Hid (lookErr N es ps = plErr N ps) := by simp only [Hid, lookErr]; rw [if_neg (by simp [h0])]
    have hC := hide (fun w hB hE => by have := rpos_any N a cap es w B hB hE hl; rw [h0] at this; exact this)
    replace hE := hide hE
    replace hP := hide hP
    clear h0
    go_enter Try.func45, Try.ntmps45
    go_wp2_with fail
    refine (hC.out _ (by simp; omega) (hE.out.below ((by repeat (first | with_reducible exact Below.refl _ _ | with_reducible assumption | with_reducible refine up_drewN ?_ | with_reducible refine up_drew ?_ | (with_reducible refine up_alloc ?_ ?_; rotate_left; (first | omega | (simp <;> omega) | simp)) | (with_reducible refine up_set ?_ ?_; rotate_left; (first | omega | (simp <;> omega) | simp)) | (with_reducible refine Below.trans ?_ (Below.mono (by with_reducible assumption) ?_); rotate_left; (first | omega | (simp <;> omega) | simp)))) : Below w.heap.size w _) hB)).mono ?_
    rintro e w1 ⟨rfl, hb1⟩
    have hz0 : w.heap.size < w1.heap.size := by have := hb1.size; simp at this; omega
    have kN : w1.cell? ⟨w.heap.size, 0, none⟩ = some (.int .i64 N) := cu_below hb1 (by simp [go_sem]) (by simp)
    have hbw := hide (unalloc (hb1.mono (by simp)) (Nat.le_refl _) : Below w.heap.size w w1)
    clear hb1
    go_wp2
    go_loopw [7, 15] (fun _ i wr => ∃ k : Nat, k ≤ ps.length ∧ i = .int .i64 k ∧ Hid (plErr N ps = plErr N (ps.drop k)) ∧ Hid (Below w1.heap.size w1 wr)) (fun _ i _ => ps.length - (intOf i).toNat)
    case atStart => exact ⟨0, Nat.zero_le _, rfl, rfl, Below.refl _ _⟩
    case round =>
      obtain ⟨k, hk, rfl, hrest, hb⟩ := hrel
      have k0 := (hb.out.cell (cell_lt kN)).trans kN
      have hzr := hb.out.size
      have hbr := hide (hbw.out.trans (hb.out.mono hbw.out.size))
      clear kN
      by_cases hlt : k < ps.length
      · obtain ⟨b, o, rfl, hbB, e0⟩ := hP.out.int k hlt
        have e1 := cu_below hbr.out e0 (by simp; omega)
        have hbl := cell_lt e1
        clear e0
        obtain ⟨x, hx⟩ : ∃ x, x = ps[k] := ⟨_, rfl⟩
        rw [← hx] at e1
        replace hx := hide hx
        by_cases q : x < 0 ∨ N ≤ x
        · have hq := hide (pl_hit hlt (by rw [← hx.out]; exact q))
          have q2 : x < 0 ∨ (0 ≤ x ∧ N ≤ x) := by omega
          clear q
          rcases q2 with q | ⟨q0, q⟩
          all_goals
            go_wp2
            go_ret
            exact ⟨ret_int (by rw [hr.out, hrest.out, hq.out]), hbr.out⟩
        · have hq := hide (pl_miss hlt (by rw [← hx.out]; exact q))
          have q1 : 0 ≤ x := by omega
          have q2 : x < N := by omega
          clear q
          go_wp2
          go_roundw
          case rel => exact ⟨k + 1, by omega, by go_num, hide (by rw [hrest.out, hq.out]), hb⟩
          case measure => simp [intOf]; omega
      · go_wp2
        go_ret
        refine ⟨ret_int ?_, hbr.out⟩
        rw [hr.out, hrest.out, List.drop_eq_nil_of_le (by omega)]
        rfl
  · have hr : Hid (lookErr N es ps = posErr N es) := by simp only [Hid, lookErr]; rw [if_pos h0]
    have q0 : (posErr N es != 0) = true := by simp [h0]
    have hC := hide (fun w hB hE => rpos_any N a cap es w B hB hE hl)
    replace hE := hide hE
    replace hP := hide hP
    clear h0
    go_enter Try.func45, Try.ntmps45
    go_wp2_with fail
    refine (hC.out _ (by simp; omega) (hE.out.below ((by repeat (first | with_reducible exact Below.refl _ _ | with_reducible assumption | with_reducible refine up_drewN ?_ | with_reducible refine up_drew ?_ | (with_reducible refine up_alloc ?_ ?_; rotate_left; (first | omega | (simp <;> omega) | simp)) | (with_reducible refine up_set ?_ ?_; rotate_left; (first | omega | (simp <;> omega) | simp)) | (with_reducible refine Below.trans ?_ (Below.mono (by with_reducible assumption) ?_); rotate_left; (first | omega | (simp <;> omega) | simp)))) : Below w.heap.size w _) hB)).mono ?_
    rintro e w1 ⟨rfl, hb1⟩
    go_wp2
    go_ret
    exact ⟨ret_int hr.out.symm, (by repeat (first | with_reducible exact Below.refl _ _ | with_reducible assumption | with_reducible refine up_drewN ?_ | with_reducible refine up_drew ?_ | (with_reducible refine up_alloc ?_ ?_; rotate_left; (first | omega | (simp <;> omega) | simp)) | (with_reducible refine up_set ?_ ?_; rotate_left; (first | omega | (simp <;> omega) | simp)) | (with_reducible refine Below.trans ?_ (Below.mono (by with_reducible assumption) ?_); rotate_left; (first | omega | (simp <;> omega) | simp))))⟩
end Go.Proofs.Ytcehdpeeaogpiaa
