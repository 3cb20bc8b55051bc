/-
  slices.Equal with the lengths under names of their own. Conditions: the lengths fit 63 bits.
-/
import Derived.Test.YtdpbkhempgghaaaEq
namespace Go.Proofs.Ytdpbkhempgghaaa
open Go.RowKit

theorem eqI (a b : Option Addr) (c1 c2 n1 n2 : Nat) (xs ys : List Int) (w : World) (B C : Nat) (h1 : xs.length = n1) (h2 : ys.length = n2) (hx : Row encI 1 w B a xs) (hy : Row encI 1 w C b ys) (hl1 : n1 ≤ 9223372036854775807) (hl2 : n2 ≤ 9223372036854775807) (t : Bool) (ht : t = true ↔ xs = ys) :
    Calls Try.prog 15 #[.slice a n1 c1, .slice b n2 c2] w fun e w' => e = .returned (.bool t) ∧ ∃ n, w' = w.drewN n := by
  have := equalI a b c1 c2 xs ys w B C hx hy (by omega) (by omega) t ht
  rwa [h1, h2] at this

theorem eqB (a b : Option Addr) (c1 c2 n1 n2 : Nat) (xs ys : List Bool) (w : World) (B C : Nat) (h1 : xs.length = n1) (h2 : ys.length = n2) (hx : Row encB 1 w B a xs) (hy : Row encB 1 w C b ys) (hl1 : n1 ≤ 9223372036854775807) (hl2 : n2 ≤ 9223372036854775807) (t : Bool) (ht : t = true ↔ xs = ys) :
    Calls Try.prog 40 #[.slice a n1 c1, .slice b n2 c2] w fun e w' => e = .returned (.bool t) ∧ ∃ n, w' = w.drewN n := by
  have := equalB a b c1 c2 xs ys w B C hx hy (by omega) (by omega) t ht
  rwa [h1, h2] at this

theorem eqP (a b : Option Addr) (c1 c2 n1 n2 : Nat) (xs ys : List P2) (w : World) (B C : Nat) (h1 : xs.length = n1) (h2 : ys.length = n2) (hx : Row encP 2 w B a xs) (hy : Row encP 2 w C b ys) (hl1 : n1 ≤ 9223372036854775807) (hl2 : n2 ≤ 9223372036854775807) (t : Bool) (ht : t = true ↔ xs = ys) :
    Calls Try.prog 50 #[.slice a n1 c1, .slice b n2 c2] w fun e w' => e = .returned (.bool t) ∧ ∃ n, w' = w.drewN n := by
  have := equalP a b c1 c2 xs ys w B C hx hy (by omega) (by omega) t ht
  rwa [h1, h2] at this
end Go.Proofs.Ytdpbkhempgghaaa
