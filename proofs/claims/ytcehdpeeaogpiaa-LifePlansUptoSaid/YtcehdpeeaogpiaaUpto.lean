/-
  For the statements with a bound on what is read: how many elements an argument has at most. No conditions.
-/
import Derived.Test.YtcehdpeeaogpiaaRows
import Derived.Test.YtcehdpeeaogpiaaOpen
import Derived.JoinedCond
namespace Go.Proofs.Ytcehdpeeaogpiaa
open Go.ChangeShapes Go.WideShapes Go.ChangeAt Go.RowKit Go.Deep
set_option linter.unusedSimpArgs false
set_option linter.unusedVariables false
theorem bulk_pos {H : Type} (d : DataW H) : 1 ≤ Rows.uptoBulk d := by
  cases d with
  | lit l => cases l <;> simp only [Rows.uptoBulk] <;> omega
  | _ => simp only [Rows.uptoBulk] <;> omega
theorem bulk_len {H : Type} : ∀ l : List (DataW H), l.length ≤ Rows.uptoBulkAll l
  | [] => by simp [Rows.uptoBulkAll]
  | d :: r => by
    have h1 := bulk_pos d
    have h2 := bulk_len r
    simp only [Rows.uptoBulkAll, List.length_cons]
    omega
section
variable {P : Program} {H : Type} {enc : TypeId × Value → H} {W : World} {base : Nat} {spare : Nat → Bool} {held : Bool}
theorem slice_bulk {t e : TypeId} {a : Option Addr} {len cap n : Nat} {y : DataW H × List MemPlace} (ht : P.underlying t = some (.slice e)) (h : DataW.trod enc P W base spare held n t [.slice a len cap] = some y) : len ≤ Rows.uptoBulk y.1 := by
  rcases open_slice ht h with ⟨hcs, _⟩ | ⟨a', len', cap', m, k, D, Pl, hcs, _, _, _, _, rfl, _⟩
  · simp only [List.cons.injEq, Value.slice.injEq, and_true] at hcs
    omega
  · simp only [List.cons.injEq, Value.slice.injEq, and_true] at hcs
    have := bulk_len ((List.range len').map D)
    simp only [Rows.uptoBulk]
    rw [List.length_map, List.length_range] at this
    omega
theorem net_bulk {r : Reach} {b0 : Nat} {t e : TypeId} {f0 f1 : Field} {x : Value} {a : Option Addr} {len cap : Nat} {d : DataW H} {p : List MemPlace} (hs : P.underlying t = some (.struct #[f0, f1])) (hone : oneCellFields P #[f0, f1] = true) (hC : P.cellsOf t = 2)
    (h1 : P.underlying f1.type = some (.slice e)) (hv : Value.okWide P W r b0 t (.agg #[x, .slice a len cap])) (h : DataW.Trod enc P W base spare held t (.agg #[x, .slice a len cap]) d p) : len ≤ Rows.uptoBulk d := by
  obtain ⟨v0, v1, y0, y1, n, hv', hd, _, u0, u1⟩ := Joins.open_agg2 hs hone hC hv h
  simp only [Value.agg.injEq] at hv'
  have e2 : v1 = .slice a len cap := by
    have := congrArg (fun z => z[1]?) hv'
    simpa using this.symm
  subst e2
  have := slice_bulk h1 u1
  rw [hd]
  simp only [Rows.uptoBulk, Rows.uptoBulkAll]
  omega
theorem bulk_sum {D : Nat → DataW H} (h : ∀ i, 2 ≤ Rows.uptoBulk (D i)) (l : List Nat) : 2 * l.length ≤ Rows.uptoBulkAll (l.map D) := by
  induction l with
  | nil => simp [Rows.uptoBulkAll]
  | cons i r ih =>
    have := h i
    simp only [List.map_cons, Rows.uptoBulkAll, List.length_cons]
    omega
theorem bulk_sum' {D : Nat → DataW H} {m : Nat} (h : ∀ i, i < m → 2 ≤ Rows.uptoBulk (D i)) : ∀ k, k ≤ m → 2 * k ≤ Rows.uptoBulkAll ((List.range k).map D) := by
  have app : ∀ (a b : List (DataW H)), Rows.uptoBulkAll (a ++ b) = Rows.uptoBulkAll a + Rows.uptoBulkAll b := by
    intro a b
    induction a with
    | nil => simp [Rows.uptoBulkAll]
    | cons x r ih => simp only [List.cons_append, Rows.uptoBulkAll, ih]; omega
  intro k
  induction k with
  | zero => intro _; simp
  | succ k ih =>
    intro hk
    have h1 := ih (by omega)
    have h2 := h k (by omega)
    rw [List.range_succ, List.map_append, app]
    simp only [List.map_cons, List.map_nil, Rows.uptoBulkAll]
    omega
/-- a slice of pairs: two for each -/
theorem pairs_bulk {t e : TypeId} {f0 f1 : Field} {a : Option Addr} {len cap n : Nat} {y : DataW H × List MemPlace} (ht : P.underlying t = some (.slice e)) (he : P.underlying e = some (.struct #[f0, f1])) (h : DataW.trod enc P W base spare held n t [.slice a len cap] = some y) : 2 * len ≤ Rows.uptoBulk y.1 := by
  rcases open_slice ht h with ⟨hcs, _⟩ | ⟨a', len', cap', m, k, D, Pl, hcs, _, hl, hm, hmm, rfl, hx⟩
  · simp only [List.cons.injEq, Value.slice.injEq, and_true] at hcs
    omega
  · simp only [List.cons.injEq, Value.slice.injEq, and_true] at hcs
    have hle : len' ≤ m := by rw [hmm]; split <;> omega
    have := bulk_sum' (D := D) (m := m) (fun i hi => by
      obtain ⟨cs', _, h2⟩ := hx i hi
      obtain ⟨y0, y1, _, h3, _⟩ := trod_struct2 he h2
      have h4 := congrArg Prod.fst h3
      simp only at h4
      rw [h4]
      have b0 := bulk_pos y0.1
      simp only [Rows.uptoBulk, Rows.uptoBulkAll]
      omega) len' hle
    simp only [Rows.uptoBulk]
    omega
end
end Go.Proofs.Ytcehdpeeaogpiaa
