/-
  slices.Min and slices.Max of numbers. Condition: the slice is not empty.
-/
import Derived.Test.YtcehdpeeaogpiaaPlainB
import Derived.BigQuiet
import Derived.Deep.QuietTactic
import Derived.WalkSpells
import Derived.WalkLawsBesides
namespace Go.Proofs.Ytcehdpeeaogpiaa
open Go.RowKit
set_option linter.unusedSimpArgs false
set_option linter.unusedVariables false

def minL (xs : List Int) : Int := xs.tail.foldl min (xs.headD 0)
def maxL (xs : List Int) : Int := xs.tail.foldl max (xs.headD 0)
theorem foldmin_le : ∀ (xs : List Int) (a t : Int), (t ≤ xs.foldl min a ↔ t ≤ a ∧ ∀ x ∈ xs, t ≤ x)
  | [], a, t => by simp
  | x :: r, a, t => by
    show t ≤ r.foldl min (min a x) ↔ _
    rw [foldmin_le r]
    constructor
    · rintro ⟨h1, h2⟩
      refine ⟨by omega, fun y hy => ?_⟩
      rcases List.mem_cons.1 hy with rfl | hy
      · omega
      · exact h2 y hy
    · rintro ⟨h1, h2⟩
      have := h2 x (List.mem_cons_self ..)
      exact ⟨by omega, fun y hy => h2 y (List.mem_cons_of_mem _ hy)⟩
theorem foldmax_ge : ∀ (xs : List Int) (a t : Int), (xs.foldl max a ≤ t ↔ a ≤ t ∧ ∀ x ∈ xs, x ≤ t)
  | [], a, t => by simp
  | x :: r, a, t => by
    show r.foldl max (max a x) ≤ t ↔ _
    rw [foldmax_ge r]
    constructor
    · rintro ⟨h1, h2⟩
      refine ⟨by omega, fun y hy => ?_⟩
      rcases List.mem_cons.1 hy with rfl | hy
      · omega
      · exact h2 y hy
    · rintro ⟨h1, h2⟩
      have := h2 x (List.mem_cons_self ..)
      exact ⟨by omega, fun y hy => h2 y (List.mem_cons_of_mem _ hy)⟩
theorem minL_le {xs : List Int} (h : 0 < xs.length) (t : Int) : t ≤ minL xs ↔ ∀ x ∈ xs, t ≤ x := by
  match xs, h with
  | a :: r, _ =>
    show t ≤ r.foldl min a ↔ _
    rw [foldmin_le]
    simp
theorem maxL_ge {xs : List Int} (h : 0 < xs.length) (t : Int) : maxL xs ≤ t ↔ ∀ x ∈ xs, x ≤ t := by
  match xs, h with
  | a :: r, _ =>
    show r.foldl max a ≤ t ↔ _
    rw [foldmax_ge]
    simp
theorem minL_take {xs : List Int} {k : Nat} (h0 : 0 < k) (h : k < xs.length) : minL (xs.take (k + 1)) = min (minL (xs.take k)) xs[k] := by
  match xs, k, h0, h with
  | a :: r, k + 1, _, h =>
    have h' : k < r.length := by simpa using h
    show (r.take (k + 1)).foldl min a = min ((r.take k).foldl min a) r[k]
    rw [List.take_succ_eq_append_getElem h', List.foldl_append]
    rfl
theorem maxL_take {xs : List Int} {k : Nat} (h0 : 0 < k) (h : k < xs.length) : maxL (xs.take (k + 1)) = max (maxL (xs.take k)) xs[k] := by
  match xs, k, h0, h with
  | a :: r, k + 1, _, h =>
    have h' : k < r.length := by simpa using h
    show (r.take (k + 1)).foldl max a = max ((r.take k).foldl max a) r[k]
    rw [List.take_succ_eq_append_getElem h', List.foldl_append]
    rfl
theorem minL_one {xs : List Int} (h : 0 < xs.length) : minL (xs.take 1) = xs[0] := by
  match xs, h with
  | a :: r, _ => rfl
theorem maxL_one {xs : List Int} (h : 0 < xs.length) : maxL (xs.take 1) = xs[0] := by
  match xs, h with
  | a :: r, _ => rfl
set_option maxHeartbeats 1000000 in
theorem smin_any (a : Option Addr) (cap : Nat) (xs : List Int) (w : World) (B : Nat) (hE : Row encI 1 w B a xs) (h0 : 0 < xs.length) (hl : xs.length ≤ 9223372036854775807) :
    Calls Try.prog 125 #[.slice a xs.length cap] w fun e w' => e = .returned (.int .i64 (minL xs)) ∧ ∃ n, w' = w.drewN n := by
  obtain ⟨b, o, rfl, hbB, c0⟩ := hE.int 0 h0
  have i0 : (0 : Int) < (xs.length : Int) := by omega
  have hone := hide (minL_one h0)
  obtain ⟨x0, hx0⟩ : ∃ x, x = xs[0] := ⟨_, rfl⟩
  rw [← hx0] at c0
  replace hx0 := hide hx0
  have c0' : w.cell? ⟨b, o, none⟩ = some (.int .i64 x0) := by simpa using c0
  replace hE := hide hE
  go_enter Try.func125, Try.ntmps125
  go_wp2
  clear c0 c0'
  go_loopw [3, 4] (fun s i wr => ∃ (k : Nat) (m : Int), 1 ≤ k ∧ k ≤ xs.length ∧ i = .int .i64 k ∧ s = .int .i64 m ∧ Hid (m = minL (xs.take k)) ∧ Hid (∃ n, wr = w.drewN n)) (fun _ i _ => xs.length - (intOf i).toNat)
  case atStart => exact ⟨1, x0, Nat.le_refl _, by omega, rfl, rfl, by rw [Hid, hone.out, hx0.out], ⟨0, rfl⟩⟩
  case round =>
    obtain ⟨k, m, hk1, hk, rfl, rfl, hm, hw⟩ := hrel
    obtain ⟨d, rfl⟩ := hw.out
    by_cases hlt : k < xs.length
    · obtain ⟨b2, o2, e1, _, c1⟩ := hE.out.int k hlt
      simp only [Option.some.injEq, Addr.mk.injEq] at e1
      obtain ⟨rfl, rfl, _⟩ := e1
      have hn := hide (minL_take (by omega) hlt)
      obtain ⟨y, hy⟩ : ∃ y, y = xs[k] := ⟨_, rfl⟩
      rw [← hy] at c1
      replace hy := hide hy
      have i1 : (0 : Int) ≤ (k : Int) ∧ (k : Int) < (xs.length : Int) := by omega
      rcases Int.lt_trichotomy y m with h | h | h
      all_goals
        go_wp2
        go_roundw
        case rel =>
          first
            | exact ⟨k + 1, y, by omega, by omega, by go_num, rfl, by rw [Hid, hn.out, ← hm.out, ← hy.out]; omega, ⟨d, rfl⟩⟩
            | exact ⟨k + 1, m, by omega, by omega, by go_num, rfl, by rw [Hid, hn.out, ← hm.out, ← hy.out]; omega, ⟨d, rfl⟩⟩
        case measure => simp [intOf]; omega
    · obtain rfl : k = xs.length := by omega
      have hfin := hm.out
      rw [List.take_length] at hfin
      subst hfin
      go_wp2
      go_ret
      exact ⟨rfl, d, rfl⟩
set_option maxHeartbeats 1000000 in
theorem smax_any (a : Option Addr) (cap : Nat) (xs : List Int) (w : World) (B : Nat) (hE : Row encI 1 w B a xs) (h0 : 0 < xs.length) (hl : xs.length ≤ 9223372036854775807) :
    Calls Try.prog 126 #[.slice a xs.length cap] w fun e w' => e = .returned (.int .i64 (maxL xs)) ∧ ∃ n, w' = w.drewN n := by
  obtain ⟨b, o, rfl, hbB, c0⟩ := hE.int 0 h0
  have i0 : (0 : Int) < (xs.length : Int) := by omega
  have hone := hide (maxL_one h0)
  obtain ⟨x0, hx0⟩ : ∃ x, x = xs[0] := ⟨_, rfl⟩
  rw [← hx0] at c0
  replace hx0 := hide hx0
  have c0' : w.cell? ⟨b, o, none⟩ = some (.int .i64 x0) := by simpa using c0
  replace hE := hide hE
  go_enter Try.func126, Try.ntmps126
  go_wp2
  clear c0 c0'
  go_loopw [3, 4] (fun s i wr => ∃ (k : Nat) (m : Int), 1 ≤ k ∧ k ≤ xs.length ∧ i = .int .i64 k ∧ s = .int .i64 m ∧ Hid (m = maxL (xs.take k)) ∧ Hid (∃ n, wr = w.drewN n)) (fun _ i _ => xs.length - (intOf i).toNat)
  case atStart => exact ⟨1, x0, Nat.le_refl _, by omega, rfl, rfl, by rw [Hid, hone.out, hx0.out], ⟨0, rfl⟩⟩
  case round =>
    obtain ⟨k, m, hk1, hk, rfl, rfl, hm, hw⟩ := hrel
    obtain ⟨d, rfl⟩ := hw.out
    by_cases hlt : k < xs.length
    · obtain ⟨b2, o2, e1, _, c1⟩ := hE.out.int k hlt
      simp only [Option.some.injEq, Addr.mk.injEq] at e1
      obtain ⟨rfl, rfl, _⟩ := e1
      have hn := hide (maxL_take (by omega) hlt)
      obtain ⟨y, hy⟩ : ∃ y, y = xs[k] := ⟨_, rfl⟩
      rw [← hy] at c1
      replace hy := hide hy
      have i1 : (0 : Int) ≤ (k : Int) ∧ (k : Int) < (xs.length : Int) := by omega
      rcases Int.lt_trichotomy y m with h | h | h
      all_goals
        go_wp2
        go_roundw
        case rel =>
          first
            | exact ⟨k + 1, y, by omega, by omega, by go_num, rfl, by rw [Hid, hn.out, ← hm.out, ← hy.out]; omega, ⟨d, rfl⟩⟩
            | exact ⟨k + 1, m, by omega, by omega, by go_num, rfl, by rw [Hid, hn.out, ← hm.out, ← hy.out]; omega, ⟨d, rfl⟩⟩
        case measure => simp [intOf]; omega
    · obtain rfl : k = xs.length := by omega
      have hfin := hm.out
      rw [List.take_length] at hfin
      subst hfin
      go_wp2
      go_ret
      exact ⟨rfl, d, rfl⟩
end Go.Proofs.Ytcehdpeeaogpiaa
