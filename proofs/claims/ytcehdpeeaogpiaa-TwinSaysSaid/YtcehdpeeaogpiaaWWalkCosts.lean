/-
  The walk of felllaw.WalkCosts: it returns true. Conditions: the arguments read as data.
-/
import Derived.Test.YtcehdpeeaogpiaaRWCost
import Derived.Test.YtcehdpeeaogpiaaOpen
namespace Go.Proofs.Ytcehdpeeaogpiaa
open Go.RowKit
set_option linter.unusedSimpArgs false
set_option linter.unusedVariables false
/-- both, whatever they are given -/
theorem wcost_any (N : Int) (a : Option Addr) (cap : Nat) (es : List Ed) (pa : Option Addr) (pc : Nat) (p : List Int) (w : World) (B : Nat) (hB : B ≤ w.heap.size) (hE : Row encE 3 w B a es) (hP : Row encI 1 w B pa p) (hl : es.length ≤ 9223372036854775807) (hlp : p.length ≤ 9223372036854775807) :
    Calls Try.prog 195 #[.agg #[.int .i64 N, .slice a es.length cap], .slice pa p.length pc] w (PairBack (wcost N es p) w) := by
  by_cases h : netErr N es ≠ 0 ∨ p.length = 0 ∨ p.length > 100
  · exact wcost_bad N a cap es pa pc p w B hB hE hl hlp h
  · have h0 : netErr N es = 0 := by
      by_cases h1 : netErr N es = 0
      · exact h1
      · exact absurd (.inl h1) h
    obtain ⟨n, rfl⟩ := Int.eq_ofNat_of_zero_le (show 0 ≤ N by have := netErr_ok h0; omega)
    exact wcost_ok n a cap es pa pc p w B hB hE hP hl h0 (by omega) (by omega)
theorem rwcost_any (N : Int) (a : Option Addr) (cap : Nat) (es : List Ed) (pa : Option Addr) (pc : Nat) (p : List Int) (w : World) (B : Nat) (hB : B ≤ w.heap.size) (hE : Row encE 3 w B a es) (hP : Row encI 1 w B pa p) (hl : es.length ≤ 9223372036854775807) (hlp : p.length ≤ 9223372036854775807) :
    Calls Try.prog 54 #[.agg #[.int .i64 N, .slice a es.length cap], .slice pa p.length pc] w (PairBack (wcost N es p) w) := by
  by_cases h : netErr N es ≠ 0 ∨ p.length = 0 ∨ p.length > 100
  · exact rwcost_bad N a cap es pa pc p w B hB hE hl hlp h
  · have h0 : netErr N es = 0 := by
      by_cases h1 : netErr N es = 0
      · exact h1
      · exact absurd (.inl h1) h
    obtain ⟨n, rfl⟩ := Int.eq_ofNat_of_zero_le (show 0 ≤ N by have := netErr_ok h0; omega)
    exact rwcost_ok n a cap es pa pc p w B hB hE hP hl h0 (by omega) (by omega)
