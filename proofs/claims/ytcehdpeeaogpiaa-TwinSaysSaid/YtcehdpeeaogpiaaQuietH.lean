/-
  A region that draws its order and only reads, walked once with the walk itself behind a variable: a long run of operations that are passed over is not looked into ahead of time. No condition, no program.
-/
import Derived.Test.YtcehdpeeaogpiaaBase
import Derived.Deep.QuietTactic
namespace Go.Proofs.Ytcehdpeeaogpiaa
open Go Go.RowKit
theorem wp_region_quiet_hid {P : Program} {id : Nat} {Q : Exit → Act → World → Prop} {a : Act} {w : World} {l : List Oper} (hm : P.follows .mixedOrders = true) (hB : Region.lexB .any l.toArray = true)
    (h : ∀ wq : (Act → Prop) → List Oper → Act → Prop,
      Hid (∀ (Q : Act → Prop) (o : Oper) (rest : List Oper) (a : Act), (∀ K : Act → Prop, Hid (∀ a, wq Q rest a → K a) → if Region.wanted o (yielded l.toArray a.tmps) then o.quiet P a (fun w' => ∃ n, w' = w.drewN n) K else K (a.put o.dst undef)) → wq Q (o :: rest) a) →
      Hid (∀ (Q : Act → Prop) (a : Act), Q a → wq Q [] a) → wq (fun a' => ∀ w', (∃ n, w' = w.drewN n) → Q .normal a' w') l a) : (Code.region id l.toArray true).wp P Q a w :=
  wp_region_quiet_lit hm hB (h (wpQuiet P l.toArray (fun w' => ∃ n, w' = w.drewN n)) (hide fun _ _ _ _ hs => wpQuiet_step fun K hK => hs K (hide hK)) (hide fun _ _ h => h))
end Go.Proofs.Ytcehdpeeaogpiaa
