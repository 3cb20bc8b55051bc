/-
  For the statements with a bound on what is read: how many elements an argument has at most. No conditions.
-/
import Derived.Test.YtgkiipmeigfjnaaRows
import Derived.Test.YtgkiipmeigfjnaaOpen
import Derived.JoinedCond
namespace Go.Proofs.Ytgkiipmeigfjnaa
open Go.ChangeShapes Go.WideShapes Go.ChangeAt Go.RowKit Go.Deep
set_option linter.unusedSimpArgs false
set_option linter.unusedVariables false
theorem bulk_pos {H : Type} (d : DataW H) : 1 ≤ Rows.uptoBulk d := by
  cases d with
  | lit l => cases l <;> simp only [Rows.uptoBulk] <;> omega
  | _ => simp only [Rows.uptoBulk] <;> omega
theorem bulk_len {H : Type} : ∀ l : List (DataW H), l.length ≤ Rows.uptoBulkAll l
  | [] => by simp [Rows.uptoBulkAll]
  | d :: r => by
    have h1 := bulk_pos d
    have h2 := bulk_len r
    simp only [Rows.uptoBulkAll, List.length_cons]
    omega
section
variable {P : Program} {H : Type} {enc : TypeId × Value → H} {W : World} {base : Nat} {spare : Nat → Bool} {held : Bool}
theorem slice_bulk {t e : TypeId} {a : Option Addr} {len cap n : Nat} {y : DataW H × List MemPlace} (ht : P.underlying t = some (.slice e)) (h : DataW.trod enc P W base spare held n t [.slice a len cap] = some y) : len ≤ Rows.uptoBulk y.1 := by
  rcases open_slice ht h with ⟨hcs, _⟩ | ⟨a', len', cap', m, k, D, Pl, hcs, _, _, _, _, rfl, _⟩
  · simp only [List.cons.injEq, Value.slice.injEq, and_true] at hcs
    omega
  · simp only [List.cons.injEq, Value.slice.injEq, and_true] at hcs
    have := bulk_len ((List.range len').map D)
    simp only [Rows.uptoBulk]
    rw [List.length_map, List.length_range] at this
    omega
theorem net_bulk {r : Reach} {b0 : Nat} {t e : TypeId} {f0 f1 : Field} {x : Value} {a : Option Addr} {len cap : Nat} {d : DataW H} {p : List MemPlace} (hs : P.underlying t = some (.struct #[f0, f1])) (hone : oneCellFields P #[f0, f1] = true) (hC : P.cellsOf t = 2)
    (h1 : P.underlying f1.type = some (.slice e)) (hv : Value.okWide P W r b0 t (.agg #[x, .slice a len cap])) (h : DataW.Trod enc P W base spare held t (.agg #[x, .slice a len cap]) d p) : len ≤ Rows.uptoBulk d := by
  obtain ⟨v0, v1, y0, y1, n, hv', hd, _, u0, u1⟩ := Joins.open_agg2 hs hone hC hv h
  simp only [Value.agg.injEq] at hv'
  have e2 : v1 = .slice a len cap := by
    have := congrArg (fun z => z[1]?) hv'
    simpa using this.symm
  subst e2
  have := slice_bulk h1 u1
  rw [hd]
  simp only [Rows.uptoBulk, Rows.uptoBulkAll]
  omega
end
end Go.Proofs.Ytgkiipmeigfjnaa
