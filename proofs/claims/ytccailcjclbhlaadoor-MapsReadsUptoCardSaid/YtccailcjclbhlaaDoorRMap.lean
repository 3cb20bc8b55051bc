/-
  What fellref.Map returns. Condition: a right grid.
-/
import Derived.Test.YtccailcjclbhlaaDoorPrint
import Derived.Deep.RegionHeld3
namespace Go.Proofs.YtccailcjclbhlaaDoor
open Go.RowKit
set_option linter.unusedSimpArgs false
set_option linter.unusedVariables false

def rowTo (n : Nat) (cs : List Int) (Y X : Nat) : List UInt8 := printTo n cs (Y * n) ++ (List.range X).map fun j => chU (cs.getD (Y * n + j) 0)
theorem rowTo_zero (n : Nat) (cs : List Int) (Y : Nat) : rowTo n cs Y 0 = printTo n cs (Y * n) := by simp [rowTo]
theorem rowTo_succ (n : Nat) (cs : List Int) (Y X : Nat) : rowTo n cs Y (X + 1) = rowTo n cs Y X ++ [chU (cs.getD (Y * n + X) 0)] := by simp [rowTo, List.range_succ]
theorem tmod_nat (a n : Nat) : ((a : Int) + 1).tmod n = ((a + 1) % n : Nat) := by
  rw [show (a : Int) + 1 = ((a + 1 : Nat) : Int) by omega]; rfl
theorem rowTo_eq (n : Nat) (cs : List Int) (Y : Nat) : ∀ X, X + 1 ≤ n → rowTo n cs Y X = printTo n cs (Y * n + X)
  | 0, _ => by rw [rowTo_zero]; rfl
  | X + 1, h => by
    rw [rowTo_succ, rowTo_eq n cs Y X (by omega), ← Nat.add_assoc, printTo_succ, printAt]
    rw [if_neg]
    rw [tmod_nat, show Y * n + X + 1 = X + 1 + n * Y by rw [Nat.mul_comm]; omega, Nat.add_mul_mod_self_left, Nat.mod_eq_of_lt (by omega)]
    omega
theorem rowTo_end (n : Nat) (cs : List Int) (Y : Nat) (h : 1 ≤ n) : rowTo n cs Y n ++ [10] = printTo n cs ((Y + 1) * n) := by
  obtain ⟨m, rfl⟩ : ∃ m, n = m + 1 := ⟨n - 1, by omega⟩
  rw [rowTo_succ, rowTo_eq (m + 1) cs Y m (by omega), show (Y + 1) * (m + 1) = Y * (m + 1) + m + 1 by rw [Nat.succ_mul]; omega, printTo_succ, printAt, if_pos]
  · simp
  · rw [tmod_nat, show Y * (m + 1) + m + 1 = 0 + (m + 1) * (Y + 1) by rw [Nat.mul_comm, Nat.mul_succ]; omega, Nat.add_mul_mod_self_left]
    simp
theorem str_app (S E : ByteArray) (l m : List UInt8) (h : S = ⟨l.toArray⟩) (k : E = ⟨m.toArray⟩) : S ++ E = ⟨(l ++ m).toArray⟩ := by
  subst h k
  apply ByteArray.ext
  simp [ByteArray.data_append]
theorem ch_ext (c : Int) (h0 : 0 ≤ c) (h1 : c ≤ 9) : (⟨#[35, 49, 50, 51, 52, 53, 54, 55, 56, 57]⟩ : ByteArray).extract c.toNat (c + 1).toNat = ⟨[chU c].toArray⟩ := by
  have : c = 0 ∨ c = 1 ∨ c = 2 ∨ c = 3 ∨ c = 4 ∨ c = 5 ∨ c = 6 ∨ c = 7 ∨ c = 8 ∨ c = 9 := by omega
  rcases this with rfl | rfl | rfl | rfl | rfl | rfl | rfl | rfl | rfl | rfl <;> decide
theorem ground_bd' {cs : List Int} (hc : ∀ c ∈ cs, 0 ≤ c ∧ c ≤ 9) (k : Nat) : 0 ≤ cs.getD k 0 ∧ cs.getD k 0 ≤ 9 := by
  rw [List.getD_eq_getElem?_getD]
  cases h : cs[k]? with
  | none => simp
  | some c => exact hc c (List.mem_of_getElem? h)
theorem ground_in (n m : Nat) (cs : List Int) (X Y : Nat) (hX : X < n) (hY : Y < m) : groundV n m cs X Y = cs.getD (Y * n + X) 0 := by
  unfold groundV
  rw [if_neg (by omega), show ((Y : Int) * (n : Int) + (X : Int)) = ((Y * n + X : Nat) : Int) by simp]
  rfl

theorem rowTo_len (n : Nat) (cs : List Int) (Y X : Nat) : (rowTo n cs Y X).length ≤ 2 * (Y * n) + X := by
  have := printTo_len n cs (Y * n)
  simp [rowTo]; omega
theorem size_of {S : ByteArray} {l : List UInt8} {k : Nat} (h : S = ⟨l.toArray⟩) (hl : l.length ≤ k) : S.size ≤ k := by subst h; exact hl

theorem sl_at0 (w : World) : (Instr.sliceAt 9 (.string ⟨#[35, 49, 50, 51, 52, 53, 54, 55, 56, 57]⟩) (some (.int .i64 0)) (some (.int .i64 1)) none).run Tryd.prog w = .ok (.string ⟨[chU 0].toArray⟩) w := by kernel_rfl
theorem sl_at1 (w : World) : (Instr.sliceAt 9 (.string ⟨#[35, 49, 50, 51, 52, 53, 54, 55, 56, 57]⟩) (some (.int .i64 1)) (some (.int .i64 2)) none).run Tryd.prog w = .ok (.string ⟨[chU 1].toArray⟩) w := by kernel_rfl
theorem sl_at2 (w : World) : (Instr.sliceAt 9 (.string ⟨#[35, 49, 50, 51, 52, 53, 54, 55, 56, 57]⟩) (some (.int .i64 2)) (some (.int .i64 3)) none).run Tryd.prog w = .ok (.string ⟨[chU 2].toArray⟩) w := by kernel_rfl
theorem sl_at3 (w : World) : (Instr.sliceAt 9 (.string ⟨#[35, 49, 50, 51, 52, 53, 54, 55, 56, 57]⟩) (some (.int .i64 3)) (some (.int .i64 4)) none).run Tryd.prog w = .ok (.string ⟨[chU 3].toArray⟩) w := by kernel_rfl
theorem sl_at4 (w : World) : (Instr.sliceAt 9 (.string ⟨#[35, 49, 50, 51, 52, 53, 54, 55, 56, 57]⟩) (some (.int .i64 4)) (some (.int .i64 5)) none).run Tryd.prog w = .ok (.string ⟨[chU 4].toArray⟩) w := by kernel_rfl
theorem sl_at5 (w : World) : (Instr.sliceAt 9 (.string ⟨#[35, 49, 50, 51, 52, 53, 54, 55, 56, 57]⟩) (some (.int .i64 5)) (some (.int .i64 6)) none).run Tryd.prog w = .ok (.string ⟨[chU 5].toArray⟩) w := by kernel_rfl
theorem sl_at6 (w : World) : (Instr.sliceAt 9 (.string ⟨#[35, 49, 50, 51, 52, 53, 54, 55, 56, 57]⟩) (some (.int .i64 6)) (some (.int .i64 7)) none).run Tryd.prog w = .ok (.string ⟨[chU 6].toArray⟩) w := by kernel_rfl
theorem sl_at7 (w : World) : (Instr.sliceAt 9 (.string ⟨#[35, 49, 50, 51, 52, 53, 54, 55, 56, 57]⟩) (some (.int .i64 7)) (some (.int .i64 8)) none).run Tryd.prog w = .ok (.string ⟨[chU 7].toArray⟩) w := by kernel_rfl
theorem sl_at8 (w : World) : (Instr.sliceAt 9 (.string ⟨#[35, 49, 50, 51, 52, 53, 54, 55, 56, 57]⟩) (some (.int .i64 8)) (some (.int .i64 9)) none).run Tryd.prog w = .ok (.string ⟨[chU 8].toArray⟩) w := by kernel_rfl
theorem sl_at9 (w : World) : (Instr.sliceAt 9 (.string ⟨#[35, 49, 50, 51, 52, 53, 54, 55, 56, 57]⟩) (some (.int .i64 9)) (some (.int .i64 10)) none).run Tryd.prog w = .ok (.string ⟨[chU 9].toArray⟩) w := by kernel_rfl
theorem sl_at (w : World) (c : Int) (h0 : 0 ≤ c) (h1 : c ≤ 9) : (Instr.sliceAt 9 (.string ⟨#[35, 49, 50, 51, 52, 53, 54, 55, 56, 57]⟩) (some (.int .i64 c)) (some (.int .i64 (c + 1))) none).run Tryd.prog w = .ok (.string ⟨[chU c].toArray⟩) w := by
  have : c = 0 ∨ c = 1 ∨ c = 2 ∨ c = 3 ∨ c = 4 ∨ c = 5 ∨ c = 6 ∨ c = 7 ∨ c = 8 ∨ c = 9 := by omega
  rcases this with rfl | rfl | rfl | rfl | rfl | rfl | rfl | rfl | rfl | rfl
  · exact sl_at0 w
  · exact sl_at1 w
  · exact sl_at2 w
  · exact sl_at3 w
  · exact sl_at4 w
  · exact sl_at5 w
  · exact sl_at6 w
  · exact sl_at7 w
  · exact sl_at8 w
  · exact sl_at9 w
set_option maxRecDepth 20000 in
set_option maxHeartbeats 2000000 in
theorem rmap_any (n m : Nat) (a : Option Addr) (cap : Nat) (cs : List Int) (w : World) (B : Nat) (hB : B ≤ w.heap.size) (hE : Row encI 1 w B a cs) (h0 : gridErr n m cs = 0) :
    Calls Tryd.prog 10 #[.agg #[.int .i64 (n : Int), .int .i64 (m : Int), .slice a cs.length cap]] w fun e w' => e = .returned (.string ⟨(printTo n cs cs.length).toArray⟩) ∧ Below w.heap.size w w' := by
  obtain ⟨b1, b2, b3, b4, hcl, hcs⟩ := gridErr_ok h0
  have hG := hide (fun x y w hB hE => cell_any n m x y a cap cs w B hB hE b1 b2 b3 b4 hcl)
  have gb := ground_bd' hcs
  replace hE := hide hE
  replace hcs := hide hcs
  have hcn : cs.length = m * n := by
    have : (cs.length : Int) = ((m * n : Nat) : Int) := by rw [hcl]; simp [Int.mul_comm]
    omega
  replace hcn := hide hcn
  have n8 : n ≤ 8 := by omega
  have n1 : 1 ≤ n := by omega
  have m8 : m ≤ 8 := by omega
  clear h0 hcl b1 b2 b3 b4
  go_enter Tryd.func10, Tryd.ntmps10
  go_wp2_with fail
  go_loopw [3, 8] (fun s i wr => ∃ (Y : Nat) (S : ByteArray), Y ≤ m ∧ i = .int .i64 Y ∧ s = .string S ∧ Hid (S = ⟨(printTo n cs (Y * n)).toArray⟩) ∧ Below (w.heap.size + 1) (w.alloc (.cells #[.int .i64 (n : Int), .int .i64 (m : Int), .slice a cs.length cap] 24)) wr) (fun _ i _ => m - (intOf i).toNat)
  case atStart => exact ⟨0, _, Nat.zero_le _, rfl, rfl, by simp [Hid, printTo], Below.refl _ _⟩
  case round =>
    obtain ⟨Y, S, hY, rfl, rfl, hS, hbx⟩ := hrel
    obtain ⟨c0, c1, c2⟩ : wr.cell? ⟨w.heap.size, 0, none⟩ = some (.int .i64 (n : Int)) ∧ wr.cell? ⟨w.heap.size, 1, none⟩ = some (.int .i64 (m : Int)) ∧ wr.cell? ⟨w.heap.size, 2, none⟩ = some (.slice a cs.length cap) := by
      refine ⟨?_, ?_, ?_⟩ <;> (rw [hbx.cell (by simp)]; simp [go_sem])
    by_cases hlt : Y < m
    · have hr0 := hide (rowTo_zero n cs Y)
      go_wp2_with fail
      go_loopw [3, 13] (fun s i wr => ∃ (X : Nat) (S : ByteArray), X ≤ n ∧ i = .int .i64 X ∧ s = .string S ∧ Hid (S = ⟨(rowTo n cs Y X).toArray⟩) ∧ Below (w.heap.size + 1) (w.alloc (.cells #[.int .i64 (n : Int), .int .i64 (m : Int), .slice a cs.length cap] 24)) wr) (fun _ i _ => n - (intOf i).toNat)
      case atStart => exact ⟨0, _, Nat.zero_le _, rfl, rfl, by rw [hr0.out]; exact hS, hbx⟩
      case round =>
        clear c0 c1 c2 hbx
        obtain ⟨X, S2, hX, rfl, rfl, hS2, hbx⟩ := hrel
        have hszr := hbx.size
        obtain ⟨c0, c1, c2⟩ : wr.cell? ⟨w.heap.size, 0, none⟩ = some (.int .i64 (n : Int)) ∧ wr.cell? ⟨w.heap.size, 1, none⟩ = some (.int .i64 (m : Int)) ∧ wr.cell? ⟨w.heap.size, 2, none⟩ = some (.slice a cs.length cap) := by
          refine ⟨?_, ?_, ?_⟩ <;> (rw [hbx.cell (by simp)]; simp [go_sem])
        have hz5 : w.heap.size < wr.heap.size := by simp at hszr; omega
        have hbr : Below w.heap.size w wr := unalloc (hbx.mono (by omega)) (Nat.le_refl _)
        by_cases hltX : X < n
        · obtain ⟨c, hc⟩ : ∃ c, c = cs.getD (Y * n + X) 0 := ⟨_, rfl⟩
          have hq1 := ground_in n m cs X Y hltX hlt
          have hc9 := gb (Y * n + X)
          have hrs := rowTo_succ n cs Y X
          rw [← hc] at hq1 hc9 hrs
          obtain ⟨hc0, hc1⟩ := hc9
          obtain ⟨E, hEE⟩ : ∃ E : ByteArray, E = ⟨[chU c].toArray⟩ := ⟨_, rfl⟩
          have ix := fun w => sl_at w c hc0 hc1
          rw [← hEE] at ix
          have zE : E.size = 1 := by rw [hEE]; rfl
          have zS : S2.size ≤ 200 := size_of hS2.out (by have := rowTo_len n cs Y X; have := Nat.mul_le_mul (show Y ≤ 8 by omega) n8; omega)
          have hap := hide (str_app S2 E _ _ hS2.out hEE)
          have zz1 : (9223372036854775807 < S2.size + 1) = False := by simp; omega
          have zz2 : (9223372036854775807 < S2.size + E.size) = False := by simp; omega
          have zz3 : S2.size + E.size ≤ 9223372036854775807 := by omega
          have zz4 : S2.size + 1 ≤ 9223372036854775807 := by omega
          clear hEE
          replace hrs := hide hrs
          clear hc
          have W1 : IntKind.i64.wrap (c + 1) = c + 1 := IntWalk.i64_in _ (by omega)
          have key := hide (show ∀ w', Below wr.heap.size wr w' → (Below wr.heap.size wr w' ∧ w'.cell? ⟨w.heap.size, 0, none⟩ = some (.int .i64 (n : Int)) ∧ w'.cell? ⟨w.heap.size, 1, none⟩ = some (.int .i64 (m : Int)) ∧ w'.cell? ⟨w.heap.size, 2, none⟩ = some (.slice a cs.length cap)) from
            fun w' hb => ⟨hb, (hb.cell hz5).trans c0, (hb.cell hz5).trans c1, (hb.cell hz5).trans c2⟩)
          have hBr : B ≤ wr.heap.size := by omega
          have hEr := hide (hE.out.below hbr hB)
          go_wp2_with fail
          go_region_held3 (fun w' => Below wr.heap.size wr w' ∧ w'.cell? ⟨w.heap.size, 0, none⟩ = some (.int .i64 (n : Int)) ∧ w'.cell? ⟨w.heap.size, 1, none⟩ = some (.int .i64 (m : Int)) ∧ w'.cell? ⟨w.heap.size, 2, none⟩ = some (.slice a cs.length cap)) (first | exact key.out _ (below_drew _) | exact key.out _ (by assumption))
            (first | (go_at_call 14; have hb4 := (‹_ ∧ _› : _ ∧ _).1; refine (hG.out _ _ _ (Nat.le_trans hBr (Below.size hb4)) (hEr.out.below hb4 hBr)).mono ?_; rintro e w4 ⟨he, hb5⟩; simp only [hq1] at he; subst he; have hb6 := below_step hb4 hb5))
          all_goals
            obtain ⟨hb7, e0, e1, e2⟩ := (‹Below wr.heap.size wr _ ∧ _›)
            go_wp2
            go_roundw
            case rel => exact ⟨X + 1, _, by omega, by go_num, rfl, by rw [hrs.out]; exact hap.out, hbx.trans (hb7.mono (by omega))⟩
            case measure => simp [intOf]; omega
        · obtain rfl : X = n := by omega
          have hre := hide (rowTo_end X cs Y n1)
          have zS : S2.size ≤ 200 := size_of hS2.out (by have := rowTo_len X cs Y X; have := Nat.mul_le_mul (show Y ≤ 8 by omega) n8; omega)
          have hap := hide (str_app S2 ⟨#[10]⟩ _ [10] hS2.out rfl)
          go_wp2
          go_roundw
          case rel => exact ⟨Y + 1, _, by omega, by go_num, rfl, by rw [← hre.out]; exact hap.out, hbx⟩
          case measure => simp [intOf]; omega
    · obtain rfl : Y = m := by omega
      go_wp2
      go_ret
      refine ⟨by have e := hS.out; subst e; rw [hcn.out]; rfl, unalloc (hbx.mono (by omega)) (Nat.le_refl _)⟩
end Go.Proofs.YtccailcjclbhlaaDoor
