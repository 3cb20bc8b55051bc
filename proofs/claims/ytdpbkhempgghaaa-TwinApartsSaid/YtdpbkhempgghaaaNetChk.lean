/-
  What the checks of a net return: net.Check, and the reference's Net. No condition but that the slice reads.
-/
import Derived.Test.YtdpbkhempgghaaaLib2
import Derived.BigQuiet
import Derived.Deep.QuietTactic
import Derived.WalkSpells
import Derived.WalkLawsBesides
namespace Go.Proofs.Ytdpbkhempgghaaa
open Go.RowKit
set_option linter.unusedSimpArgs false
set_option linter.unusedVariables false

def edErr (N : Int) (e : Ed) : Int := if e.u < 0 ∨ e.u ≥ N ∨ e.v < 0 ∨ e.v ≥ N then 1 else if e.c < -10000 ∨ e.c > 10000 then 4 else 0
def edsErr (N : Int) : List Ed → Int | [] => 0 | e :: r => if edErr N e ≠ 0 then edErr N e else edsErr N r
def netErr (N : Int) (es : List Ed) : Int := if N < 1 ∨ N > 64 then 1 else if es.length > 600 then 2 else edsErr N es
theorem edsErr_hit {N : Int} {es : List Ed} {k : Nat} (h : k < es.length) (x : Int) (hx : x ≠ 0) (he : edErr N es[k] = x) : edsErr N (es.drop k) = x := by
  rw [List.drop_eq_getElem_cons h, edsErr, he, if_pos hx]
theorem edsErr_miss {N : Int} {es : List Ed} {k : Nat} (h : k < es.length) (he : edErr N es[k] = 0) : edsErr N (es.drop k) = edsErr N (es.drop (k+1)) := by
  rw [List.drop_eq_getElem_cons h, edsErr, he, if_neg (by simp)]
theorem edsErr_all {N : Int} : ∀ {es : List Ed}, edsErr N es = 0 → ∀ e ∈ es, 0 ≤ e.u ∧ e.u < N ∧ 0 ≤ e.v ∧ e.v < N ∧ -10000 ≤ e.c ∧ e.c ≤ 10000
  | [], _, e, he => by cases he
  | x :: r, h, e, he => by
    rw [edsErr] at h
    split at h
    · omega
    · rename_i g
      have g : edErr N x = 0 := by omega
      cases he with
      | head => unfold edErr at g; split at g; · omega
                split at g <;> omega
      | tail _ hm => exact edsErr_all h e hm
theorem netErr_ok {N : Int} {es : List Ed} (h : netErr N es = 0) : 1 ≤ N ∧ N ≤ 64 ∧ es.length ≤ 600 ∧ ∀ e ∈ es, 0 ≤ e.u ∧ e.u < N ∧ 0 ≤ e.v ∧ e.v < N ∧ -10000 ≤ e.c ∧ e.c ≤ 10000 := by
  unfold netErr at h
  split at h
  · omega
  · split at h
    · omega
    · exact ⟨by omega, by omega, by omega, edsErr_all h⟩

theorem check_any (N : Int) (a : Option Addr) (cap : Nat) (es : List Ed) (w : World) (B : Nat) (hB : B ≤ w.heap.size) (hE : Row encE 3 w B a es) (hl : es.length ≤ 9223372036854775807) :
    Calls Try.prog 64 #[.agg #[.int .i64 N, .slice a es.length cap]] w fun e w' => e = .returned (.int .i64 (netErr N es)) ∧ Below w.heap.size w w' := by
  by_cases h1 : N < 1
  · have hr : Hid (netErr N es = 1) := by simp [Hid, netErr, h1]
    go_enter Try.func64, Try.ntmps64
    go_wp2
    go_ret
    exact ⟨ret_int hr.out.symm, (Below.refl _ _).alloc (Nat.le_refl _) _⟩
  by_cases h2 : 64 < N
  · have hr : Hid (netErr N es = 1) := by simp [Hid, netErr, h2]
    go_enter Try.func64, Try.ntmps64
    go_wp2
    go_ret
    exact ⟨ret_int hr.out.symm, (Below.refl _ _).alloc (Nat.le_refl _) _⟩
  by_cases h3 : 600 < (es.length : Int)
  · have hr : Hid (netErr N es = 2) := by simp only [Hid, netErr]; rw [if_neg (by omega), if_pos (by omega)]
    go_enter Try.func64, Try.ntmps64
    go_wp2
    go_ret
    exact ⟨ret_int hr.out.symm, (Below.refl _ _).alloc (Nat.le_refl _) _⟩
  have hr : Hid (netErr N es = edsErr N es) := by simp only [Hid, netErr]; rw [if_neg (by omega), if_neg (by omega)]
  go_enter Try.func64, Try.ntmps64
  go_wp2
  go_loopw [20] (fun i wr => ∃ k : Nat, k ≤ es.length ∧ i = .int .i64 k ∧ Hid (edsErr N es = edsErr N (es.drop k)) ∧ wr.cell? ⟨w.heap.size, 0, none⟩ = some (.int .i64 N) ∧ Below w.heap.size w wr ∧ w.heap.size < wr.heap.size) (fun i _ => es.length - (intOf i).toNat)
  case atStart => exact ⟨0, Nat.zero_le _, rfl, rfl, by simp, (Below.refl _ _).alloc (Nat.le_refl _) _, by simp⟩
  case round =>
    obtain ⟨k, hk, rfl, hrest, hN, hb, hsz⟩ := hrel
    by_cases hlt : k < es.length
    · obtain ⟨b, o, rfl, hbB, c0, c1, c2⟩ := hE.ed k hlt
      rw [← hb.cell (by simp; omega)] at c0 c1 c2
      go_wp2
      all_goals first
        | (go_ret
           refine ⟨ret_int ?_, hb.alloc (by omega) _⟩
           rw [hr.out, hrest.out]
           first
             | exact (edsErr_hit hlt 1 (by omega) (by simp only [edErr]; rw [if_pos (by omega)])).symm
             | exact (edsErr_hit hlt 4 (by omega) (by simp only [edErr]; rw [if_neg (by omega), if_pos (by omega)])).symm)
        | (go_roundw
           case rel => exact ⟨k + 1, by omega, by go_num, by rw [Hid, hrest.out]; exact edsErr_miss hlt (by simp only [edErr]; rw [if_neg (by omega), if_neg (by omega)]), cell_alloc hN hsz _, hb.alloc (by omega) _, lt_alloc hsz _⟩
           case measure => simp [intOf]; omega)
    · go_wp2
      go_ret
      refine ⟨ret_int ?_, hb⟩
      rw [hr.out, hrest.out, List.drop_eq_nil_of_le (by omega)]
      rfl

theorem rnet_any (N : Int) (a : Option Addr) (cap : Nat) (es : List Ed) (w : World) (B : Nat) (hB : B ≤ w.heap.size) (hE : Row encE 3 w B a es) (hl : es.length ≤ 9223372036854775807) :
    Calls Try.prog 45 #[.agg #[.int .i64 N, .slice a es.length cap]] w fun e w' => e = .returned (.int .i64 (netErr N es)) ∧ Below w.heap.size w w' := by
  by_cases h1 : N < 1
  · have hr : Hid (netErr N es = 1) := by simp [Hid, netErr, h1]
    go_enter Try.func45, Try.ntmps45
    go_wp2
    go_ret
    exact ⟨ret_int hr.out.symm, (Below.refl _ _).alloc (Nat.le_refl _) _⟩
  by_cases h2 : 64 < N
  · have hr : Hid (netErr N es = 1) := by simp [Hid, netErr, h2]
    go_enter Try.func45, Try.ntmps45
    go_wp2
    go_ret
    exact ⟨ret_int hr.out.symm, (Below.refl _ _).alloc (Nat.le_refl _) _⟩
  by_cases h3 : 600 < (es.length : Int)
  · have hr : Hid (netErr N es = 2) := by simp only [Hid, netErr]; rw [if_neg (by omega), if_pos (by omega)]
    go_enter Try.func45, Try.ntmps45
    go_wp2
    go_ret
    exact ⟨ret_int hr.out.symm, (Below.refl _ _).alloc (Nat.le_refl _) _⟩
  have hr : Hid (netErr N es = edsErr N es) := by simp only [Hid, netErr]; rw [if_neg (by omega), if_neg (by omega)]
  go_enter Try.func45, Try.ntmps45
  go_wp2
  go_loopw [20] (fun i wr => ∃ k : Nat, k ≤ es.length ∧ i = .int .i64 k ∧ Hid (edsErr N es = edsErr N (es.drop k)) ∧ wr.cell? ⟨w.heap.size, 0, none⟩ = some (.int .i64 N) ∧ Below w.heap.size w wr ∧ w.heap.size < wr.heap.size) (fun i _ => es.length - (intOf i).toNat)
  case atStart => exact ⟨0, Nat.zero_le _, rfl, rfl, by simp, (Below.refl _ _).alloc (Nat.le_refl _) _, by simp⟩
  case round =>
    obtain ⟨k, hk, rfl, hrest, hN, hb, hsz⟩ := hrel
    by_cases hlt : k < es.length
    · obtain ⟨b, o, rfl, hbB, c0, c1, c2⟩ := hE.ed k hlt
      rw [← hb.cell (by simp; omega)] at c0 c1 c2
      go_wp2
      all_goals first
        | (go_ret
           refine ⟨ret_int ?_, hb.alloc (by omega) _⟩
           rw [hr.out, hrest.out]
           first
             | exact (edsErr_hit hlt 1 (by omega) (by simp only [edErr]; rw [if_pos (by omega)])).symm
             | exact (edsErr_hit hlt 4 (by omega) (by simp only [edErr]; rw [if_neg (by omega), if_pos (by omega)])).symm)
        | (go_roundw
           case rel => exact ⟨k + 1, by omega, by go_num, by rw [Hid, hrest.out]; exact edsErr_miss hlt (by simp only [edErr]; rw [if_neg (by omega), if_neg (by omega)]), cell_alloc hN hsz _, hb.alloc (by omega) _, lt_alloc hsz _⟩
           case measure => simp [intOf]; omega)
    · go_wp2
      go_ret
      refine ⟨ret_int ?_, hb⟩
      rw [hr.out, hrest.out, List.drop_eq_nil_of_le (by omega)]
      rfl

end Go.Proofs.Ytdpbkhempgghaaa
