/-
  heap.New and Len over pairs. Conditions: none.
-/
import Derived.Test.YtcehdpeeaogpiaaHeapPop
namespace Go.Proofs.Ytcehdpeeaogpiaa
open Go.RowKit
set_option linter.unusedSimpArgs false
set_option linter.unusedVariables false
/-- a new heap: empty -/
theorem HeapAt.fresh (w : World) (lf : Value) (f : Nat → P2) (t : TypeId) : HeapAt (w.alloc (.cells #[lf, .slice none 0 0] t)) w.heap.size w.heap.size lf (.slice none 0 0) 0 f :=
  ⟨Nat.le_refl _, by simp, by simp [go_sem], by simp [go_sem], by simp [go_sem], Own.nil _ _, by simp [Value.ownBlock]⟩
/-- another world keeps what S leaves alone -/
theorem Keep.trans2 {S T : Nat → Prop} {a b c : World} (h : Keep S a b) (k : Keep T b c) (hT : ∀ k, T k → S k ∨ a.heap.size ≤ k) : Keep S a c :=
  ⟨k.os.trans h.os, k.tape.trans h.tape, k.output.trans h.output, Nat.le_trans h.size k.size, fun i hi hs => (k.block i (Nat.lt_of_lt_of_le hi h.size) (fun ht => by
    rcases hT i ht with h1 | h1
    · exact hs h1
    · omega)).trans (h.block i hi hs)⟩
theorem new_any (F : Nat) (w : World) : Calls Try.prog 167 #[.func (.func F) #[] #[]] w fun e w' => e = .returned (.pointer (some ⟨w.heap.size, 0, none⟩)) ∧ w' = w.alloc (.cells #[.func (.func F) #[] #[], .slice none 0 0] 244) := by
  go_enter Try.func167, Try.ntmps167
  go_wp2
  go_ret
  exact ⟨rfl, rfl⟩
theorem len_any (g : Nat) (a : Option Addr) (n c : Nat) (w : World) (hc : w.cell? ⟨g, 1, none⟩ = some (.slice a n c)) : Calls Try.prog 170 #[.pointer (some ⟨g, 0, none⟩)] w fun e w' => e = .returned (.int .i64 (n : Int)) ∧ w = w' := by
  go_enter Try.func170, Try.ntmps170
  go_wp2
  go_ret
  exact ⟨rfl, rfl⟩
end Go.Proofs.Ytcehdpeeaogpiaa
