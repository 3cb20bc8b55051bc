/-
  What the reference's SameNet returns: whether two nets are the same. Conditions: lengths fit 63 bits.
-/
import Derived.Test.YtcehdpeeaogpiaaEqA
namespace Go.Proofs.Ytcehdpeeaogpiaa
open Go.RowKit
set_option linter.unusedSimpArgs false
set_option linter.unusedVariables false

theorem samenet_any (N M : Int) (a b : Option Addr) (c1 c2 : Nat) (xs ys : List Ed) (w : World) (hx : Row encE 3 w w.heap.size a xs) (hy : Row encE 3 w w.heap.size b ys) (hl1 : xs.length ≤ 9223372036854775807) (hl2 : ys.length ≤ 9223372036854775807) (t : Bool) (ht : t = true ↔ (N = M ∧ xs = ys)) :
    Calls Try.prog 50 #[.agg #[.int .i64 N, .slice a xs.length c1], .agg #[.int .i64 M, .slice b ys.length c2]] w fun e w' => e = .returned (.bool t) ∧ Below w.heap.size w w' := by
  by_cases hN : N = M
  · subst hN
    have ht2 : t = true ↔ xs = ys := by simpa using ht
    have q0 : (N == N) = true := by simp
    clear ht
    replace hx := hide hx
    replace hy := hide hy
    replace ht2 := hide ht2
    go_enter Try.func50, Try.ntmps50
    go_wp2_with fail
    refine (equalE a b c1 c2 xs ys _ w.heap.size w.heap.size (hx.out.below ((by repeat (first | with_reducible exact Below.refl _ _ | with_reducible assumption | with_reducible refine up_drewN ?_ | with_reducible refine up_drew ?_ | (with_reducible refine up_alloc ?_ ?_; rotate_left; (first | omega | (simp <;> omega) | simp)) | (with_reducible refine up_set ?_ ?_; rotate_left; (first | omega | (simp <;> omega) | simp)) | (with_reducible refine Below.trans ?_ (Below.mono (by with_reducible assumption) ?_); rotate_left; (first | omega | (simp <;> omega) | simp)))) : Below w.heap.size w _) (Nat.le_refl _)) (hy.out.below ((by repeat (first | with_reducible exact Below.refl _ _ | with_reducible assumption | with_reducible refine up_drewN ?_ | with_reducible refine up_drew ?_ | (with_reducible refine up_alloc ?_ ?_; rotate_left; (first | omega | (simp <;> omega) | simp)) | (with_reducible refine up_set ?_ ?_; rotate_left; (first | omega | (simp <;> omega) | simp)) | (with_reducible refine Below.trans ?_ (Below.mono (by with_reducible assumption) ?_); rotate_left; (first | omega | (simp <;> omega) | simp)))) : Below w.heap.size w _) (Nat.le_refl _)) hl1 hl2 t ht2.out).mono ?_
    rintro e w1 ⟨rfl, m, rfl⟩
    go_wp2
    go_ret
    exact ⟨rfl, (by repeat (first | with_reducible exact Below.refl _ _ | with_reducible assumption | with_reducible refine up_drewN ?_ | with_reducible refine up_drew ?_ | (with_reducible refine up_alloc ?_ ?_; rotate_left; (first | omega | (simp <;> omega) | simp)) | (with_reducible refine up_set ?_ ?_; rotate_left; (first | omega | (simp <;> omega) | simp)) | (with_reducible refine Below.trans ?_ (Below.mono (by with_reducible assumption) ?_); rotate_left; (first | omega | (simp <;> omega) | simp))))⟩
  · have hf : t = false := t_false ht (fun h => hN h.1)
    subst hf
    have q0 : (N == M) = false := by simpa using hN
    clear ht hN hx hy
    go_enter Try.func50, Try.ntmps50
    go_wp2
    go_ret
    exact ⟨rfl, (by repeat (first | with_reducible exact Below.refl _ _ | with_reducible assumption | with_reducible refine up_drewN ?_ | with_reducible refine up_drew ?_ | (with_reducible refine up_alloc ?_ ?_; rotate_left; (first | omega | (simp <;> omega) | simp)) | (with_reducible refine up_set ?_ ?_; rotate_left; (first | omega | (simp <;> omega) | simp)) | (with_reducible refine Below.trans ?_ (Below.mono (by with_reducible assumption) ?_); rotate_left; (first | omega | (simp <;> omega) | simp))))⟩

theorem samenet_len (N M : Int) (a b : Option Addr) (c1 c2 : Nat) (xs ys : List Ed) (n : Nat) (w : World) (h1 : xs.length = n) (h2 : ys.length = n) (hx : Row encE 3 w w.heap.size a xs) (hy : Row encE 3 w w.heap.size b ys) (hl1 : n ≤ 9223372036854775807) (t : Bool) (ht : t = true ↔ (N = M ∧ xs = ys)) :
    Calls Try.prog 50 #[.agg #[.int .i64 N, .slice a n c1], .agg #[.int .i64 M, .slice b n c2]] w fun e w' => e = .returned (.bool t) ∧ Below w.heap.size w w' := by
  have := samenet_any N M a b c1 c2 xs ys w hx hy (by omega) (by omega) t ht
  rwa [h1, h2] at this

end Go.Proofs.Ytcehdpeeaogpiaa
