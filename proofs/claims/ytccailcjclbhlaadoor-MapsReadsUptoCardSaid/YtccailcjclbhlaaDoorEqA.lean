/-
  Several texts in one:
  slices.Equal at slices of numbers, of bools, of edges, of pairs: it returns whether the two hold the same. Condition: the lengths fit 63 bits.
  slices.Equal with the lengths under names of their own. Conditions: the lengths fit 63 bits.
-/
import Derived.Test.YtccailcjclbhlaaDoorBase
import Derived.BigQuiet
import Derived.Deep.QuietTactic
import Derived.WalkSpells
import Derived.WalkLawsBesides
/-! slices.Equal at slices of numbers, of bools, of edges, of pairs: it returns whether the two hold the same. Condition: the lengths fit 63 bits. -/
namespace Go.Proofs.YtccailcjclbhlaaDoor
open Go.RowKit
set_option linter.unusedSimpArgs false
set_option linter.unusedVariables false

theorem take_step {α : Type} {xs ys : List α} {k : Nat} (hx : k < xs.length) (hy : k < ys.length) (h : xs.take k = ys.take k) (he : xs[k] = ys[k]) : xs.take (k + 1) = ys.take (k + 1) := by
  rw [List.take_succ_eq_append_getElem hx, List.take_succ_eq_append_getElem hy, h, he]
theorem take_all {α : Type} {xs ys : List α} (hl : xs.length = ys.length) (h : xs.take xs.length = ys.take xs.length) : xs = ys := by
  rw [List.take_length, hl, List.take_length] at h; exact h
theorem ne_of_get {α : Type} {xs ys : List α} {k : Nat} (hx : k < xs.length) (hy : k < ys.length) (he : ¬ xs[k] = ys[k]) : xs ≠ ys := by
  intro h; subst h; exact he rfl
theorem t_false {t : Bool} {p : Prop} (h : t = true ↔ p) (hp : ¬ p) : t = false := by
  cases t with
  | false => rfl
  | true => exact absurd (h.1 rfl) hp
theorem ed_eq (a b : Ed) : a = b ↔ a.u = b.u ∧ a.v = b.v ∧ a.c = b.c := by
  cases a; cases b; simp
theorem p2_eq (a b : P2) : a = b ↔ a.a = b.a ∧ a.b = b.b := by
  cases a; cases b; simp


theorem equalI (a b : Option Addr) (c1 c2 : Nat) (xs ys : List Int) (w : World) (B C : Nat) (hx : Row encI 1 w B a xs) (hy : Row encI 1 w C b ys) (hl1 : xs.length ≤ 9223372036854775807) (hl2 : ys.length ≤ 9223372036854775807) (t : Bool) (ht : t = true ↔ xs = ys) :
    Calls Tryd.prog 11 #[.slice a xs.length c1, .slice b ys.length c2] w fun e w' => e = .returned (.bool t) ∧ ∃ n, w' = w.drewN n := by
  by_cases hl : xs.length = ys.length
  · have ql : (((xs.length : Nat) : Int) != ((ys.length : Nat) : Int)) = false := by simp [hl]
    have HL := hide hl
    have HT := hide ht
    clear hl ht
    go_enter Tryd.func11, Tryd.ntmps11
    go_wp2
    go_loopw [13] (fun i wr => ∃ k : Nat, k ≤ xs.length ∧ i = .int .i64 k ∧ Hid (xs.take k = ys.take k) ∧ Hid (∃ n, wr = w.drewN n)) (fun i _ => xs.length - (intOf i).toNat)
    case atStart => exact ⟨0, Nat.zero_le _, rfl, rfl, ⟨0, rfl⟩⟩
    case round =>
      obtain ⟨k, hk, rfl, heq, hw⟩ := hrel
      obtain ⟨m, rfl⟩ := hw.out
      by_cases hlt : k < xs.length
      · have hlt2 : k < ys.length := by have := HL.out; omega
        obtain ⟨b1, o1, rfl, _, c0⟩ := hx.int k hlt
        obtain ⟨b2, o2, rfl, _, d0⟩ := hy.int k hlt2
        have i1 : (0 : Int) ≤ (k : Int) ∧ (k : Int) < (xs.length : Int) := by omega
        have i2 : (k : Int) < (ys.length : Int) := by omega
        go_wp2
        go_quiet (fail)
        go_wp2
        all_goals first
          | (go_ret
             refine ⟨ret_bool (t_false HT.out (ne_of_get hlt hlt2 ?_)).symm, ⟨m + nq, by simp⟩⟩
             simp_all)
          | (go_roundw
             case rel => exact ⟨k + 1, by omega, by go_num, take_step hlt hlt2 heq.out (by first | assumption | (simp_all)), ⟨m + nq, by simp⟩⟩
             case measure => simp [intOf]; omega)
      · obtain rfl : k = xs.length := by omega
        go_wp2
        go_ret
        exact ⟨ret_bool (HT.out.2 (take_all HL.out heq.out)).symm, ⟨m, rfl⟩⟩
  · have ql : (((xs.length : Nat) : Int) != ((ys.length : Nat) : Int)) = true := by simp; omega
    have HT := hide (t_false ht (fun h => hl (by rw [h])))
    clear hl ht
    go_enter Tryd.func11, Tryd.ntmps11
    go_wp2
    go_ret
    exact ⟨ret_bool HT.out.symm, ⟨0, rfl⟩⟩

end Go.Proofs.YtccailcjclbhlaaDoor

/-! slices.Equal with the lengths under names of their own. Conditions: the lengths fit 63 bits. -/
namespace Go.Proofs.YtccailcjclbhlaaDoor
open Go.RowKit

theorem eqI (a b : Option Addr) (c1 c2 n1 n2 : Nat) (xs ys : List Int) (w : World) (B C : Nat) (h1 : xs.length = n1) (h2 : ys.length = n2) (hx : Row encI 1 w B a xs) (hy : Row encI 1 w C b ys) (hl1 : n1 ≤ 9223372036854775807) (hl2 : n2 ≤ 9223372036854775807) (t : Bool) (ht : t = true ↔ xs = ys) :
    Calls Tryd.prog 11 #[.slice a n1 c1, .slice b n2 c2] w fun e w' => e = .returned (.bool t) ∧ ∃ n, w' = w.drewN n := by
  have := equalI a b c1 c2 xs ys w B C hx hy (by omega) (by omega) t ht
  rwa [h1, h2] at this

end Go.Proofs.YtccailcjclbhlaaDoor
