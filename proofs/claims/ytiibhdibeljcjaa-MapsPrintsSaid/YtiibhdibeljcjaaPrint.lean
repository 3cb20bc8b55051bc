/-
  What maps.Print returns. Condition: the slice reads.
-/
import Derived.Test.YtiibhdibeljcjaaGridChk
import Derived.Test.YtiibhdibeljcjaaBld
import Derived.Deep.DeepCutAuto
namespace Go.Proofs.Ytiibhdibeljcjaa
open Go.RowKit
set_option linter.unusedSimpArgs false
set_option linter.unusedVariables false

def chU (c : Int) : UInt8 := ([35, 49, 50, 51, 52, 53, 54, 55, 56, 57] : List UInt8).getD c.toNat 0
def printAt (W : Int) (cs : List Int) (j : Nat) : List UInt8 := chU (cs.getD j 0) :: (if ((j : Int) + 1).tmod W = 0 then [10] else [])
def printTo (W : Int) (cs : List Int) (k : Nat) : List UInt8 := (List.range k).flatMap (printAt W cs)
theorem printTo_succ (W : Int) (cs : List Int) (k : Nat) : printTo W cs (k + 1) = printTo W cs k ++ printAt W cs k := by
  simp [printTo, List.range_succ, List.flatMap_append]
theorem printTo_line {W : Int} {cs : List Int} {k : Nat} (h : k < cs.length) (q : ((k : Int) + 1).tmod W = 0) : printTo W cs (k + 1) = (printTo W cs k ++ [chU cs[k]]) ++ [10] := by
  rw [printTo_succ, printAt, if_pos q, List.getD_eq_getElem?_getD, List.getElem?_eq_getElem h]; simp
theorem printTo_same {W : Int} {cs : List Int} {k : Nat} (h : k < cs.length) (q : ¬ ((k : Int) + 1).tmod W = 0) : printTo W cs (k + 1) = printTo W cs k ++ [chU cs[k]] := by
  rw [printTo_succ, printAt, if_neg q, List.getD_eq_getElem?_getD, List.getElem?_eq_getElem h]; simp
theorem printTo_len (W : Int) (cs : List Int) (k : Nat) : (printTo W cs k).length ≤ 2 * k := by
  induction k with
  | zero => simp [printTo]
  | succ n ih =>
    rw [printTo_succ, List.length_append]
    have : (printAt W cs n).length ≤ 2 := by unfold printAt; split <;> simp
    omega
theorem printTo_some (W : Int) (cs : List Int) (k : Nat) (h : 1 ≤ k) : printTo W cs k ≠ [] := by
  obtain ⟨n, rfl⟩ : ∃ n, k = n + 1 := ⟨k - 1, by omega⟩
  rw [printTo_succ]; simp [printAt]

def chars : Value := .string ⟨#[35, 49, 50, 51, 52, 53, 54, 55, 56, 57]⟩
theorem ch_at0 (w : World) : (Instr.index 9 (.string ⟨#[35, 49, 50, 51, 52, 53, 54, 55, 56, 57]⟩) (.int .i64 0)).run Try.prog w = .ok (.int .u8 (chU 0).toNat) w := by kernel_rfl
theorem ch_at1 (w : World) : (Instr.index 9 (.string ⟨#[35, 49, 50, 51, 52, 53, 54, 55, 56, 57]⟩) (.int .i64 1)).run Try.prog w = .ok (.int .u8 (chU 1).toNat) w := by kernel_rfl
theorem ch_at2 (w : World) : (Instr.index 9 (.string ⟨#[35, 49, 50, 51, 52, 53, 54, 55, 56, 57]⟩) (.int .i64 2)).run Try.prog w = .ok (.int .u8 (chU 2).toNat) w := by kernel_rfl
theorem ch_at3 (w : World) : (Instr.index 9 (.string ⟨#[35, 49, 50, 51, 52, 53, 54, 55, 56, 57]⟩) (.int .i64 3)).run Try.prog w = .ok (.int .u8 (chU 3).toNat) w := by kernel_rfl
theorem ch_at4 (w : World) : (Instr.index 9 (.string ⟨#[35, 49, 50, 51, 52, 53, 54, 55, 56, 57]⟩) (.int .i64 4)).run Try.prog w = .ok (.int .u8 (chU 4).toNat) w := by kernel_rfl
theorem ch_at5 (w : World) : (Instr.index 9 (.string ⟨#[35, 49, 50, 51, 52, 53, 54, 55, 56, 57]⟩) (.int .i64 5)).run Try.prog w = .ok (.int .u8 (chU 5).toNat) w := by kernel_rfl
theorem ch_at6 (w : World) : (Instr.index 9 (.string ⟨#[35, 49, 50, 51, 52, 53, 54, 55, 56, 57]⟩) (.int .i64 6)).run Try.prog w = .ok (.int .u8 (chU 6).toNat) w := by kernel_rfl
theorem ch_at7 (w : World) : (Instr.index 9 (.string ⟨#[35, 49, 50, 51, 52, 53, 54, 55, 56, 57]⟩) (.int .i64 7)).run Try.prog w = .ok (.int .u8 (chU 7).toNat) w := by kernel_rfl
theorem ch_at8 (w : World) : (Instr.index 9 (.string ⟨#[35, 49, 50, 51, 52, 53, 54, 55, 56, 57]⟩) (.int .i64 8)).run Try.prog w = .ok (.int .u8 (chU 8).toNat) w := by kernel_rfl
theorem ch_at9 (w : World) : (Instr.index 9 (.string ⟨#[35, 49, 50, 51, 52, 53, 54, 55, 56, 57]⟩) (.int .i64 9)).run Try.prog w = .ok (.int .u8 (chU 9).toNat) w := by kernel_rfl
theorem ch_at (w : World) (c : Int) (h0 : 0 ≤ c) (h1 : c ≤ 9) : (Instr.index 9 (.string ⟨#[35, 49, 50, 51, 52, 53, 54, 55, 56, 57]⟩) (.int .i64 c)).run Try.prog w = .ok (.int .u8 (chU c).toNat) w := by
  have : c = 0 ∨ c = 1 ∨ c = 2 ∨ c = 3 ∨ c = 4 ∨ c = 5 ∨ c = 6 ∨ c = 7 ∨ c = 8 ∨ c = 9 := by omega
  rcases this with rfl | rfl | rfl | rfl | rfl | rfl | rfl | rfl | rfl | rfl
  · exact ch_at0 w
  · exact ch_at1 w
  · exact ch_at2 w
  · exact ch_at3 w
  · exact ch_at4 w
  · exact ch_at5 w
  · exact ch_at6 w
  · exact ch_at7 w
  · exact ch_at8 w
  · exact ch_at9 w
theorem wline_any (B b : Nat) (l : List UInt8) (w : World) (h : Bld B w b l) (hlen : l.length + 1 ≤ 1000000) (hBw : B ≤ w.heap.size) :
    Calls Try.prog 62 #[.pointer (some ⟨b, 0, none⟩), .int .u8 10] w fun e w' => e = .returned .nilIface ∧ Bld B w' b (l ++ [10]) ∧ Below B w w' := wbyte_any B b l 10 w h hlen hBw

set_option maxRecDepth 20000 in
set_option maxHeartbeats 1000000 in
theorem print_any (W H : Int) (a : Option Addr) (cap : Nat) (cs : List Int) (w : World) (B : Nat) (hB : B ≤ w.heap.size) (hE : Row encI 1 w B a cs) (hl : cs.length ≤ 9223372036854775807) (h0 : gridErr W H cs = 0) :
    Calls Try.prog 21 #[.agg #[.int .i64 W, .int .i64 H, .slice a cs.length cap]] w fun e w' => e = .returned (.tuple #[.string ⟨(printTo W cs cs.length).toArray⟩, .int .i64 0]) ∧ Below w.heap.size w w' := by
  obtain ⟨b1, b2, b3, b4, hcl, hcs⟩ := gridErr_ok h0
  have m1 : 1 ≤ W * H := by
    have := Int.mul_le_mul b1 b3 (by omega) (by omega)
    omega
  have m2 : W * H ≤ 64 := by
    have := Int.mul_le_mul b2 b4 (by omega) (by omega)
    omega
  have hC := fun w hB hE => gcheck_any W H a cap cs w B hB hE hl
  rw [h0] at hC
  replace hC := hide hC
  replace hE := hide hE
  replace hcs := hide hcs
  have qw : (W == 0) = false := by simp; omega
  have l1 : 1 ≤ cs.length := by omega
  have l2 : cs.length ≤ 64 := by omega
  clear h0 hcl m1 m2 hl
  go_enter Try.func21, Try.ntmps21
  go_wp2_with fail
  refine (hC.out _ (by simp; omega) (hE.out.below ((by repeat (first | with_reducible exact Below.refl _ _ | with_reducible assumption | with_reducible refine up_drewN ?_ | with_reducible refine up_drew ?_ | (with_reducible refine up_alloc ?_ ?_; rotate_left; (first | omega | (simp <;> omega) | simp)) | (with_reducible refine up_set ?_ ?_; rotate_left; (first | omega | (simp <;> omega) | simp)) | (with_reducible refine Below.trans ?_ (Below.mono (by with_reducible assumption) ?_); rotate_left; (first | omega | (simp <;> omega) | simp)))) : Below w.heap.size w _) hB)).mono ?_
  rintro e w1 ⟨rfl, hb1⟩
  obtain ⟨hc1, hf1⟩ := bcell hb1; have hz1 : w.heap.size < w1.heap.size := (by have := hb1.size; (try simp at this); omega)
  go_wp2_with fail
  have hbx0 : Below (w.heap.size + 1) (w.alloc (.cells #[.int .i64 W, .int .i64 H, .slice a cs.length cap] 36)) w1 := (by repeat (first | with_reducible exact Below.refl _ _ | with_reducible assumption | with_reducible refine up_drewN ?_ | with_reducible refine up_drew ?_ | (with_reducible refine up_alloc ?_ ?_; rotate_left; (first | omega | (simp <;> omega) | simp)) | (with_reducible refine up_set ?_ ?_; rotate_left; (first | omega | (simp <;> omega) | simp)) | (with_reducible refine Below.trans ?_ (Below.mono (by with_reducible assumption) ?_); rotate_left; (first | omega | (simp <;> omega) | simp))))
  go_loopw [16] (fun i wr => ∃ k : Nat, k ≤ cs.length ∧ i = .int .i64 k ∧ Hid (Bld w1.heap.size wr w1.heap.size (printTo W cs k)) ∧ Below w1.heap.size w1 wr) (fun i _ => cs.length - (intOf i).toNat)
  case atStart => exact ⟨0, Nat.zero_le _, rfl, Lib.fresh_isBuilder _ _ _, (by repeat (first | with_reducible exact Below.refl _ _ | with_reducible assumption | with_reducible refine up_drewN ?_ | with_reducible refine up_drew ?_ | (with_reducible refine up_alloc ?_ ?_; rotate_left; (first | omega | (simp <;> omega) | simp)) | (with_reducible refine up_set ?_ ?_; rotate_left; (first | omega | (simp <;> omega) | simp)) | (with_reducible refine Below.trans ?_ (Below.mono (by with_reducible assumption) ?_); rotate_left; (first | omega | (simp <;> omega) | simp))))⟩
  case round =>
    obtain ⟨k, hk, rfl, bld, hb⟩ := hrel
    have hszr := hb.size
    have hz5 : w.heap.size < wr.heap.size := by omega
    have hbx : Below (w.heap.size + 1) (w.alloc (.cells #[.int .i64 W, .int .i64 H, .slice a cs.length cap] 36)) wr := hbx0.trans (hb.mono (by omega))
    obtain ⟨c0, c1, c2⟩ : wr.cell? ⟨w.heap.size, 0, none⟩ = some (.int .i64 W) ∧ wr.cell? ⟨w.heap.size, 1, none⟩ = some (.int .i64 H) ∧ wr.cell? ⟨w.heap.size, 2, none⟩ = some (.slice a cs.length cap) := by
      refine ⟨?_, ?_, ?_⟩ <;> (rw [hbx.cell (by simp)]; simp [go_sem])
    have hbr : Below w.heap.size w wr := unalloc (hbx.mono (by omega)) (Nat.le_refl _)
    have hpl := hide (printTo_len W cs k)
    by_cases hlt : k < cs.length
    · obtain ⟨b, o, rfl, hbB, e0⟩ := hE.out.int k hlt
      rw [← hbr.cell (by simp; omega)] at e0
      have hc9 := hcs.out cs[k] (List.getElem_mem hlt)
      have ix := ch_at wr cs[k] hc9.1 hc9.2
      obtain ⟨r, hr⟩ : ∃ r, ((k : Int) + 1).tmod W = r := ⟨_, rfl⟩
      have hW := hide (wbyte_any w1.heap.size w1.heap.size (printTo W cs k) (chU cs[k]) wr bld.out (by have := hpl.out; omega) hszr)
      go_wp2_with fail
      refine hW.out.mono ?_
      rintro e w4 ⟨rfl, bld2, hb4⟩
      replace bld2 := hide bld2
      have hs4 := hb4.size
      have hcc : w4.cell? ⟨w.heap.size, 0, none⟩ = some (.int .i64 W) := (hb4.cell (by simp; omega)).trans c0
      by_cases hq : r = 0
      · have hp := hide (printTo_line hlt (hr.trans hq))
        have q : (r == 0) = true := by simpa using hq
        have hV := hide (wline_any w1.heap.size w1.heap.size (printTo W cs k ++ [chU cs[k]]) w4 bld2.out (by have := hpl.out; simp; omega) (by omega))
        clear hq
        go_wp2_with fail
        refine hV.out.mono ?_
        rintro e w5 ⟨rfl, bld3, hb5⟩
        replace bld3 := hide bld3
        go_wp2
        go_roundw
        case rel => exact ⟨k + 1, by omega, by go_num, by rw [hp.out]; exact bld3, (hb.trans hb4).trans hb5⟩
        case measure => simp [intOf]; omega
      · have hp := hide (printTo_same hlt (fun h => hq (hr.symm.trans h)))
        have q : (r == 0) = false := by simpa using hq
        clear hq
        go_wp2
        go_roundw
        case rel => exact ⟨k + 1, by omega, by go_num, by rw [hp.out]; exact bld2, hb.trans hb4⟩
        case measure => simp [intOf]; omega
    · obtain rfl : k = cs.length := by omega
      have hS := hide (bstr_any _ _ _ _ bld.out (printTo_some W cs cs.length l1))
      go_wp2_with fail
      refine hS.out.mono ?_
      rintro e w5 ⟨rfl, hb5⟩
      go_wp2
      go_ret2
      exact ⟨rfl, hbr.trans (hb5.mono (by omega))⟩
end Go.Proofs.Ytiibhdibeljcjaa
