/-
  How a table of rows reads: each row with its own length. No condition.
-/
import Derived.Test.YtcehdpeeaogpiaaUpto
import Derived.Test.YtcehdpeeaogpiaaHBound
import Derived.Test.YtcehdpeeaogpiaaMinMax
namespace Go.Proofs.Ytcehdpeeaogpiaa
open Go.ChangeShapes Go.WideShapes Go.ChangeAt Go.RowKit Go.Deep
set_option linter.unusedSimpArgs false
set_option linter.unusedVariables false
/-- a row: where it begins, its room, its numbers -/
structure SRt where
  a : Option Addr
  c : Nat
  xs : List Int
def encR (s : SRt) : List Value := [.slice s.a s.xs.length s.c]
def QR (W : World) (B : Nat) (s : SRt) : Prop := s.xs.length ≤ s.c ∧ s.c ≤ maxLen ∧ Row encI 1 W B s.a s.xs ∧ ∀ x ∈ s.xs, Bd x
theorem lenR (x : SRt) : (encR x).length = 1 := rfl
theorem QR.below {w w' : World} {B C : Nat} {s : SRt} (h : QR w B s) (hb : Below C w w') (hB : B ≤ C) : QR w' B s := ⟨h.1, h.2.1, h.2.2.1.below hb hB, h.2.2.2⟩
theorem QR.mono {w : World} {B C : Nat} {s : SRt} (h : QR w B s) (hB : B ≤ C) : QR w C s := ⟨h.1, h.2.1, h.2.2.1.mono hB, h.2.2.2⟩
section
variable {H : Type} {enc : TypeId × Value → H} {P : Program} {W : World} {b0 base : Nat} {spare : Nat → Bool} {held : Bool} {r : Reach}
theorem read_rows {t e i : TypeId} {v : Value} {y : DataW H × List MemPlace} {n : Nat} (ht : P.underlying t = some (.slice e)) (hC : P.cellsOf e = 1) (he : P.underlying e = some (.slice i)) (hCi : P.cellsOf i = 1) (hi : P.underlying i = some (.int .i64))
    (h : DataW.trod enc P W base spare held n t [v] = some y) :
    ∃ (a : Option Addr) (cap : Nat) (ss : List SRt), v = .slice a ss.length cap ∧ ss.length ≤ cap ∧ cap ≤ maxLen ∧ Row encR 1 W W.heap.size a ss ∧ ∀ s ∈ ss, QR W W.heap.size s := by
  refine read_slice encR 1 (QR W W.heap.size) ht hC ?_ (fun _ => rfl) (by omega) h
  intro m cs y hl hy
  match cs, hl with
  | [c], _ =>
    obtain ⟨a, cap, xs, h1, h2, h3, h4, h5⟩ := read_ints he hCi hi hy
    exact ⟨⟨a, cap, xs⟩, by rw [h1]; rfl, h2, h3, h4, h5⟩
theorem openT_table {t e i : TypeId} {f0 f1 : Field} {v : Value} {d : DataW H} {p : List MemPlace} (hs : P.underlying t = some (.struct #[f0, f1])) (hone : oneCellFields P #[f0, f1] = true) (hC : P.cellsOf t = 2)
    (h0 : P.underlying f0.type = some (.slice e)) (h1 : P.underlying f1.type = some (.slice e)) (hCe : P.cellsOf e = 1) (he : P.underlying e = some (.slice i)) (hCi : P.cellsOf i = 1) (hi : P.underlying i = some (.int .i64))
    (hv : Value.okWide P W r b0 t v) (h : DataW.Trod enc P W base spare held t v d p) :
    ∃ (a b : Option Addr) (ca cb : Nat) (fs ts : List SRt), v = .agg #[.slice a fs.length ca, .slice b ts.length cb] ∧ fs.length ≤ ca ∧ ca ≤ maxLen ∧ ts.length ≤ cb ∧ cb ≤ maxLen ∧ Row encR 1 W W.heap.size a fs ∧ Row encR 1 W W.heap.size b ts ∧ (∀ s ∈ fs, QR W W.heap.size s) ∧ ∀ s ∈ ts, QR W W.heap.size s := by
  obtain ⟨v0, v1, y0, y1, n, rfl, _, _, u0, u1⟩ := Joins.open_agg2 hs hone hC hv h
  obtain ⟨a, ca, fs, rfl, g1, g2, g3, g4⟩ := read_rows h0 hCe he hCi hi u0
  obtain ⟨b, cb, ts, rfl, k1, k2, k3, k4⟩ := read_rows h1 hCe he hCi hi u1
  exact ⟨a, b, ca, cb, fs, ts, rfl, g1, g2, k1, k2, g3, k3, g4, k4⟩
theorem table_bulk {t e : TypeId} {f0 f1 : Field} {a b : Option Addr} {la ca lb cb : Nat} {d : DataW H} {p : List MemPlace} (hs : P.underlying t = some (.struct #[f0, f1])) (hone : oneCellFields P #[f0, f1] = true) (hC : P.cellsOf t = 2)
    (h0 : P.underlying f0.type = some (.slice e)) (h1 : P.underlying f1.type = some (.slice e)) (hv : Value.okWide P W r b0 t (.agg #[.slice a la ca, .slice b lb cb])) (h : DataW.Trod enc P W base spare held t (.agg #[.slice a la ca, .slice b lb cb]) d p) : la + lb ≤ Rows.uptoBulk d := by
  obtain ⟨v0, v1, y0, y1, n, hv', hd, _, u0, u1⟩ := Joins.open_agg2 hs hone hC hv h
  simp only [Value.agg.injEq] at hv'
  have e1 : v0 = .slice a la ca := by
    have := congrArg (fun z => z[0]?) hv'
    simpa using this.symm
  have e2 : v1 = .slice b lb cb := by
    have := congrArg (fun z => z[1]?) hv'
    simpa using this.symm
  subst e1 e2
  have k0 := slice_bulk h0 u0
  have k1 := slice_bulk h1 u1
  rw [hd]
  simp only [Rows.uptoBulk, Rows.uptoBulkAll]
  omega
end
/-- a row of n numbers from 0 to Far -/
def okRow (n : Nat) (xs : List Int) : Bool := decide (xs.length = n) && xs.all fun x => decide (0 ≤ x) && decide (x ≤ 1099511627776)
def okTab (n : Nat) (fs ts : List SRt) : Bool := decide (fs.length = ts.length) && decide (fs.length ≤ 4) && (fs.all fun s => okRow n s.xs) && ts.all fun s => okRow n s.xs
theorem okRow_iff {n : Nat} {xs : List Int} : okRow n xs = true ↔ xs.length = n ∧ ∀ x ∈ xs, 0 ≤ x ∧ x ≤ 1099511627776 := by
  simp [okRow]
theorem okTab_fit {n : Nat} {fs ts : List SRt} (h : okTab n fs ts = true) : fs.length = ts.length ∧ fs.length ≤ 4 ∧ Fit n (fs.map SRt.xs) ∧ Fit n (ts.map SRt.xs) := by
  simp only [okTab, Bool.and_eq_true, decide_eq_true_eq, List.all_eq_true] at h
  obtain ⟨⟨⟨h1, h2⟩, h3⟩, h4⟩ := h
  refine ⟨h1, h2, fun r hr => ?_, fun r hr => ?_⟩
  · obtain ⟨s, hs, rfl⟩ := List.mem_map.1 hr
    exact okRow_iff.1 (h3 s hs)
  · obtain ⟨s, hs, rfl⟩ := List.mem_map.1 hr
    exact okRow_iff.1 (h4 s hs)
theorem tab_of {w : World} {B n : Nat} {a : Option Addr} {ss : List SRt} (h : Row encR 1 w B a ss) (hq : ∀ s ∈ ss, QR w B s) (hf : Fit n (ss.map SRt.xs)) : Tab w B a n (ss.map SRt.xs) := by
  intro i hi
  have hi' : i < ss.length := by simpa using hi
  obtain ⟨b, o, e1, e2, e3⟩ := h i hi'
  have e4 := e3 0 _ rfl
  have hl := (hf _ (List.mem_map.2 ⟨ss[i], List.getElem_mem hi', rfl⟩)).1
  rw [hl] at e4
  exact ⟨b, o, ss[i].a, ss[i].c, e1, e2, by simpa using e4, by simpa using (hq _ (List.getElem_mem hi')).2.2.1⟩
end Go.Proofs.Ytcehdpeeaogpiaa
