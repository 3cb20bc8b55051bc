/-
  A part of the proof of ServePlays: Open IMapA
-/
import Derived.Test.YtccailcjclbhlaaTopServiceA1
import Derived.ProofKit
import Derived.OpenShut
import Derived.Lib.SmallJoins
import Derived.Maps.Own
import Derived.Maps.OwnOps
import Derived.Maps.OwnSet
import Derived.Maps.Views
/-! How an argument of a law reads: a fraction, a net, a grid, a slice of numbers, of edges, of pairs. No condition. -/
namespace Go.Proofs.Ytccailcjclbhlaa
open Go.ChangeShapes Go.WideShapes Go.ChangeAt Go.RowKit Go.Deep
set_option linter.unusedSimpArgs false
set_option linter.unusedVariables false

/-- fits 64 bits -/
def Bd (n : Int) : Prop := -9223372036854775808 ≤ n ∧ n ≤ 9223372036854775807
theorem wf_bd {n : Int} (h : (Lit.int .i64 n).wf = true) : Bd n := by
  simpa [Bd, Lit.wf, IntKind.min, IntKind.max, IntKind.signed, IntKind.bits] using h

theorem lt_of_cell {w : World} {b o : Nat} {v : Value} (h : w.cell? ⟨b, o, none⟩ = some v) : b < w.heap.size := by
  unfold World.cell? at h
  rcases Nat.lt_or_ge b w.heap.size with h' | h'
  · exact h'
  · rw [Array.getElem?_eq_none h'] at h; simp at h

section
variable {H : Type} {enc : TypeId × Value → H} {P : Program} {W : World} {b0 base : Nat} {spare : Nat → Bool} {held : Bool} {r : Reach}

theorem read_int {t : TypeId} {v : Value} {y : DataW H × List MemPlace} {n : Nat} (ht : P.underlying t = some (.int .i64)) (h : DataW.trod enc P W base spare held n t [v] = some y) : ∃ x, v = .int .i64 x ∧ Bd x := by
  obtain ⟨x, h1, _, h3⟩ := DataW.trod_int ht h
  exact ⟨x, by simpa using h1, wf_bd h3⟩

/-- a slice, its elements read by 'rd': what each element's cells are -/
theorem read_slice {α : Type} (en : α → List Value) (sz : Nat) (Q : α → Prop) {t e : TypeId} {v : Value} {y : DataW H × List MemPlace} {n : Nat} (ht : P.underlying t = some (.slice e)) (hC : P.cellsOf e = sz)
    (rd : ∀ (m : Nat) (cs : List Value) (y : DataW H × List MemPlace), cs.length = sz → DataW.trod enc P W base spare held m e cs = some y → ∃ x : α, cs = en x ∧ Q x) (hsz : ∀ x, (en x).length = sz) (hpos : 0 < sz)
    (h : DataW.trod enc P W base spare held n t [v] = some y) :
    ∃ (a : Option Addr) (cap : Nat) (xs : List α), v = .slice a xs.length cap ∧ xs.length ≤ cap ∧ cap ≤ maxLen ∧ Row en sz W W.heap.size a xs ∧ ∀ x ∈ xs, Q x := by
  rcases open_slice ht h with ⟨hcs, _⟩ | ⟨a, len, cap, m, k, D, Pl, hcs, _, hl, hm, hmm, _, hx⟩
  · exact ⟨none, 0, [], by simpa using hcs, Nat.le_refl _, Nat.zero_le _, Row.nil _ _ _ _ _, by simp⟩
  · have hle : len ≤ m := by rw [hmm]; split <;> omega
    have key : ∀ i, i < len → ∃ x : α, Q x ∧ ∃ b o, a = ⟨b, o, none⟩ ∧ b < W.heap.size ∧ ∀ j u, (en x)[j]? = some u → W.cell? ⟨b, o + i * sz + j, none⟩ = some u := by
      intro i hi
      obtain ⟨cs', hc, ht'⟩ := hx i (by omega)
      rw [hC] at hc
      obtain ⟨_, hlen, hcell⟩ := World.cells?_some hc
      obtain ⟨x, rfl, hq⟩ := rd _ _ _ hlen ht'
      have c0 := hcell 0 hpos
      have hsp : a = ⟨a.block, a.off, none⟩ := by
        have h0 : 0 < (en x).length := by rw [hsz]; exact hpos
        rw [List.getElem?_eq_getElem h0] at c0
        have hlast := hcell (sz - 1) (by omega)
        rw [List.getElem?_eq_getElem (by rw [hsz]; omega)] at hlast
        obtain ⟨b, o, s⟩ := a
        by_cases hz : i * sz = 0
        · have := World.cell?_spot c0
          simp only [Addr.add, hz, if_true] at this
          simp [this]
        · cases s with
          | none => rfl
          | some s =>
            exfalso
            obtain ⟨cs0, hc0, ht0⟩ := hx 0 (by omega)
            rw [hC] at hc0
            obtain ⟨_, hlen0, hcell0⟩ := World.cells?_some hc0
            obtain ⟨x0, rfl, _⟩ := rd _ _ _ hlen0 ht0
            have c00 := hcell0 0 hpos
            rw [List.getElem?_eq_getElem (by rw [hsz]; exact hpos)] at c00
            have := World.cell?_spot c00
            simp [Addr.add] at this
      refine ⟨x, hq, a.block, a.off, hsp, ?_, ?_⟩
      · rw [List.getElem?_eq_getElem (by rw [hsz]; exact hpos)] at c0
        rw [hsp, add_plain, add_plain] at c0
        exact lt_of_cell c0
      · intro j u hu
        have hj : j < sz := by
          have := (List.getElem?_eq_some_iff.1 hu).1
          rw [hsz] at this; exact this
        have := hcell j hj
        rw [hu, hsp, add_plain, add_plain] at this
        exact this
    have ⟨f, hf⟩ : ∃ f : Fin len → α, ∀ i : Fin len, Q (f i) ∧ ∃ b o, a = ⟨b, o, none⟩ ∧ b < W.heap.size ∧ ∀ j u, (en (f i))[j]? = some u → W.cell? ⟨b, o + i.1 * sz + j, none⟩ = some u :=
      ⟨fun i => Classical.choose (key i.1 i.2), fun i => Classical.choose_spec (key i.1 i.2)⟩
    refine ⟨some a, cap, List.ofFn f, by simpa using hcs, by simpa using hl, hm, ?_, ?_⟩
    · intro i hi
      have hi' : i < len := by simpa using hi
      obtain ⟨_, b, o, h1, h2, h3⟩ := hf ⟨i, hi'⟩
      exact ⟨b, o, by rw [h1], h2, by simpa using h3⟩
    · intro x hx
      obtain ⟨i, rfl⟩ := (List.mem_ofFn ..).1 hx
      exact (hf i).1

theorem read_ints {t e : TypeId} {v : Value} {y : DataW H × List MemPlace} {n : Nat} (ht : P.underlying t = some (.slice e)) (hC : P.cellsOf e = 1) (he : P.underlying e = some (.int .i64))
    (h : DataW.trod enc P W base spare held n t [v] = some y) :
    ∃ (a : Option Addr) (cap : Nat) (xs : List Int), v = .slice a xs.length cap ∧ xs.length ≤ cap ∧ cap ≤ maxLen ∧ Row encI 1 W W.heap.size a xs ∧ ∀ x ∈ xs, Bd x := by
  refine read_slice encI 1 Bd ht hC ?_ (fun _ => rfl) (by omega) h
  intro m cs y _ hy
  obtain ⟨x, h1, _, h3⟩ := DataW.trod_int he hy
  exact ⟨x, h1, wf_bd h3⟩

def BdP (p : P2) : Prop := Bd p.a ∧ Bd p.b
theorem read_p2s {t e : TypeId} {f0 f1 : Field} {v : Value} {y : DataW H × List MemPlace} {n : Nat} (ht : P.underlying t = some (.slice e)) (hC : P.cellsOf e = 2) (he : P.underlying e = some (.struct #[f0, f1]))
    (hone : oneCellFields P #[f0, f1] = true) (h0 : P.underlying f0.type = some (.int .i64)) (h1 : P.underlying f1.type = some (.int .i64))
    (h : DataW.trod enc P W base spare held n t [v] = some y) :
    ∃ (a : Option Addr) (cap : Nat) (xs : List P2), v = .slice a xs.length cap ∧ xs.length ≤ cap ∧ cap ≤ maxLen ∧ Row encP 2 W W.heap.size a xs ∧ ∀ x ∈ xs, BdP x := by
  refine read_slice encP 2 BdP ht hC ?_ (fun _ => rfl) (by omega) h
  intro m cs y hl hy
  match cs, hl with
  | [c0, c1], _ =>
    obtain ⟨y0, y1, k, _, _, g0, g1⟩ := trod_struct2 he hy
    obtain ⟨o0, k0⟩ := hone_of hone 0 f0 rfl
    obtain ⟨o1, k1⟩ := hone_of hone 1 f1 rfl
    rw [o0, k0] at g0; rw [o1, k1] at g1
    obtain ⟨a, e0, ba⟩ := read_int h0 (v := c0) (by simpa using g0)
    obtain ⟨b, e1, bb⟩ := read_int h1 (v := c1) (by simpa using g1)
    subst e0 e1
    exact ⟨⟨a, b⟩, rfl, ba, bb⟩

theorem openT_p2s {t e : TypeId} {f0 f1 : Field} {v : Value} {d : DataW H} {p : List MemPlace} (ht : P.underlying t = some (.slice e)) (hC : P.cellsOf e = 2) (he : P.underlying e = some (.struct #[f0, f1]))
    (hone : oneCellFields P #[f0, f1] = true) (h0 : P.underlying f0.type = some (.int .i64)) (h1 : P.underlying f1.type = some (.int .i64)) (hv : Value.okWide P W r b0 t v) (h : DataW.Trod enc P W base spare held t v d p) :
    ∃ (a : Option Addr) (cap : Nat) (xs : List P2), v = .slice a xs.length cap ∧ xs.length ≤ cap ∧ cap ≤ maxLen ∧ Row encP 2 W W.heap.size a xs ∧ ∀ x ∈ xs, BdP x := by
  obtain ⟨a, l, c, rfl⟩ := okWide_slice ht hv
  obtain ⟨fuel, hf⟩ := h
  exact read_p2s ht hC he hone h0 h1 (by simpa [Value.cells] using hf)
theorem openT_grid {t e : TypeId} {f0 f1 f2 : Field} {v : Value} {d : DataW H} {p : List MemPlace} (hs : P.underlying t = some (.struct #[f0, f1, f2])) (hone : oneCellFields P #[f0, f1, f2] = true) (hC : P.cellsOf t = 3)
    (h0 : P.underlying f0.type = some (.int .i64)) (h1 : P.underlying f1.type = some (.int .i64)) (h2 : P.underlying f2.type = some (.slice e)) (hCe : P.cellsOf e = 1) (he : P.underlying e = some (.int .i64))
    (hv : Value.okWide P W r b0 t v) (h : DataW.Trod enc P W base spare held t v d p) :
    ∃ (X Y : Int) (a : Option Addr) (cap : Nat) (cs : List Int), v = .agg #[.int .i64 X, .int .i64 Y, .slice a cs.length cap] ∧ Bd X ∧ Bd Y ∧ cs.length ≤ cap ∧ cap ≤ maxLen ∧ Row encI 1 W W.heap.size a cs ∧ ∀ x ∈ cs, Bd x := by
  obtain ⟨v0, v1, v2, y0, y1, y2, n, rfl, _, _, u0, u1, u2⟩ := Joins.open_agg3 hs hone hC hv h
  obtain ⟨X, rfl, bX⟩ := read_int h0 u0
  obtain ⟨Y, rfl, bY⟩ := read_int h1 u1
  obtain ⟨a, cap, cs, rfl, g⟩ := read_ints h2 hCe he u2
  exact ⟨X, Y, a, cap, cs, rfl, bX, bY, g⟩
end

theorem own : ownKnob Try.prog.godebug = none := by kernel_rfl
theorem laidOut : laidOutB Try.prog = true := by kernel_rfl

end Go.Proofs.Ytccailcjclbhlaa
/-! Several texts in one: -/
/-! A map from numbers to numbers that the call made: what it holds, look-up, store. Conditions: the key fits 64 bits. -/
namespace Go.Proofs.Ytccailcjclbhlaa
open Go.RowKit Go.Maps
set_option linter.unusedSimpArgs false
set_option linter.unusedVariables false
/-- block b is a map of at most n entries that holds what f says -/
def IMap (w : World) (b n : Nat) (f : Int → Option Int) : Prop :=
  ∃ D : DataW Unit, w.ownsMap Try.prog 3 (plainElem Try.prog 3) b n D ∧ IsMap D ∧ ∀ x, D.atKey (.int .i64 x) (.lit (.int .i64 0)) = .lit (.int .i64 ((f x).getD 0)) ∧ Maps.has D (.int .i64 x) = (f x).isSome
section
variable {w : World} {ops : Array Oper} {rest : List Oper} {o : Oper} {a : Act} {Q : Exit → Act → World → Prop} {b n : Nat} {f : Int → Option Int}
end
end Go.Proofs.Ytccailcjclbhlaa

/-! More on a map from numbers to numbers that the call made: look-up and store as runs, for regions that draw; the entries of a map's text. Conditions: the key fits 64 bits. -/
namespace Go.Proofs.Ytccailcjclbhlaa
open Go.RowKit Go.Maps
set_option linter.unusedSimpArgs false
set_option linter.unusedVariables false
section
variable {w : World} {b n : Nat} {f : Int → Option Int}
end
end Go.Proofs.Ytccailcjclbhlaa
