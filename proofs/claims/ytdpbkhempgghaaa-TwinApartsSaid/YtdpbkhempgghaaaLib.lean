/-
  Small lemmas on lists, worlds and slices, used by the walks of this seat. No condition, no program.
-/
import Derived.Test.YtdpbkhempgghaaaRows
import Derived.WalkKit
import Derived.WalkSmall
import Derived.Deep.Draws
import Derived.Deep.Slices
namespace Go.Proofs.Ytdpbkhempgghaaa
open Go.RowKit

/-- an edge: from, to, cost -/
structure Ed where
  u : Int
  v : Int
  c : Int

/-- two numbers: a pair, a key with an id, a fraction -/
structure P2 where
  a : Int
  b : Int

def encI (x : Int) : List Value := [.int .i64 x]
def encB (x : Bool) : List Value := [.bool x]
def encE (e : Ed) : List Value := [.int .i64 e.u, .int .i64 e.v, .int .i64 e.c]
def encP (p : P2) : List Value := [.int .i64 p.a, .int .i64 p.b]
def encV (v : Value) : List Value := [v]

/-- the slice that begins at a reads as xs in w, each element laid out by enc in sz cells; all of it below block B -/
def Row {α : Type} (enc : α → List Value) (sz : Nat) (w : World) (B : Nat) (a : Option Addr) (xs : List α) : Prop :=
  ∀ i (h : i < xs.length), ∃ b o, a = some ⟨b, o, none⟩ ∧ b < B ∧ ∀ j u, (enc xs[i])[j]? = some u → w.cell? ⟨b, o + i * sz + j, none⟩ = some u

theorem Row.nil {α : Type} (enc : α → List Value) (sz : Nat) (w : World) (B : Nat) (a : Option Addr) : Row enc sz w B a [] := by
  intro i h; cases h
theorem Row.mono {α : Type} {enc : α → List Value} {sz : Nat} {w : World} {B B' : Nat} {a : Option Addr} {xs : List α} (h : Row enc sz w B a xs) (hB : B ≤ B') : Row enc sz w B' a xs := by
  intro i hi
  obtain ⟨b, o, h1, h2, h3⟩ := h i hi
  exact ⟨b, o, h1, by omega, h3⟩
theorem Row.below {α : Type} {enc : α → List Value} {sz : Nat} {w w' : World} {B C : Nat} {a : Option Addr} {xs : List α} (h : Row enc sz w B a xs) (hb : Below C w w') (hB : B ≤ C) : Row enc sz w' B a xs := by
  intro i hi
  obtain ⟨b, o, h1, h2, h3⟩ := h i hi
  exact ⟨b, o, h1, h2, fun j u hu => by rw [hb.cell (by simp; omega)]; exact h3 j u hu⟩
theorem Row.ed {w : World} {B : Nat} {a : Option Addr} {es : List Ed} (h : Row encE 3 w B a es) (i : Nat) (hi : i < es.length) :
    ∃ b o, a = some ⟨b, o, none⟩ ∧ b < B ∧ w.cell? ⟨b, o + i * 3, none⟩ = some (.int .i64 es[i].u) ∧ w.cell? ⟨b, o + i * 3 + 1, none⟩ = some (.int .i64 es[i].v) ∧ w.cell? ⟨b, o + i * 3 + 2, none⟩ = some (.int .i64 es[i].c) := by
  obtain ⟨b, o, h1, h2, h3⟩ := h i hi
  exact ⟨b, o, h1, h2, h3 0 _ rfl, h3 1 _ rfl, h3 2 _ rfl⟩
theorem Row.p2 {w : World} {B : Nat} {a : Option Addr} {es : List P2} (h : Row encP 2 w B a es) (i : Nat) (hi : i < es.length) :
    ∃ b o, a = some ⟨b, o, none⟩ ∧ b < B ∧ w.cell? ⟨b, o + i * 2, none⟩ = some (.int .i64 es[i].a) ∧ w.cell? ⟨b, o + i * 2 + 1, none⟩ = some (.int .i64 es[i].b) := by
  obtain ⟨b, o, h1, h2, h3⟩ := h i hi
  exact ⟨b, o, h1, h2, h3 0 _ rfl, h3 1 _ rfl⟩
theorem Row.int {w : World} {B : Nat} {a : Option Addr} {xs : List Int} (h : Row encI 1 w B a xs) (i : Nat) (hi : i < xs.length) :
    ∃ b o, a = some ⟨b, o, none⟩ ∧ b < B ∧ w.cell? ⟨b, o + i, none⟩ = some (.int .i64 xs[i]) := by
  obtain ⟨b, o, h1, h2, h3⟩ := h i hi
  exact ⟨b, o, h1, h2, by simpa using h3 0 _ rfl⟩
theorem Row.bool {w : World} {B : Nat} {a : Option Addr} {xs : List Bool} (h : Row encB 1 w B a xs) (i : Nat) (hi : i < xs.length) :
    ∃ b o, a = some ⟨b, o, none⟩ ∧ b < B ∧ w.cell? ⟨b, o + i, none⟩ = some (.bool xs[i]) := by
  obtain ⟨b, o, h1, h2, h3⟩ := h i hi
  exact ⟨b, o, h1, h2, by simpa using h3 0 _ rfl⟩
theorem Row.val {w : World} {B : Nat} {a : Option Addr} {xs : List Value} (h : Row encV 1 w B a xs) (i : Nat) (hi : i < xs.length) :
    ∃ b o, a = some ⟨b, o, none⟩ ∧ b < B ∧ w.cell? ⟨b, o + i, none⟩ = some xs[i] := by
  obtain ⟨b, o, h1, h2, h3⟩ := h i hi
  exact ⟨b, o, h1, h2, by simpa using h3 0 _ rfl⟩

theorem ret_int {k : IntKind} {a b : Int} (h : a = b) : Ending.returned (.int k a) = .returned (.int k b) := by rw [h]
theorem ret_bool {a b : Bool} (h : a = b) : Ending.returned (.bool a) = .returned (.bool b) := by rw [h]

theorem cell_alloc {w : World} {p : Addr} {v : Value} (h : w.cell? p = some v) (hlt : p.block < w.heap.size) (o : Obj) : (w.alloc o).cell? p = some v := by
  rw [((Below.refl _ _).alloc (Nat.le_refl _) o : Below w.heap.size w (w.alloc o)).cell hlt]; exact h
theorem lt_alloc {w : World} {n : Nat} (h : n < w.heap.size) (o : Obj) : n < (w.alloc o).heap.size := by simp; omega

/-- all old cells and marks read as before: two rules for the walk -/
theorem bcell {W w1 : World} (hb : Below W.heap.size W w1) : (∀ b o, b < W.heap.size → w1.cell? ⟨b, o, none⟩ = W.cell? ⟨b, o, none⟩) ∧ (∀ b o, b < W.heap.size → w1.frozen? ⟨b, o, none⟩ = W.frozen? ⟨b, o, none⟩) :=
  ⟨fun b o h => hb.cell (p := ⟨b, o, none⟩) h, fun b o h => hb.frozen (p := ⟨b, o, none⟩) h⟩

theorem below_step {a b c : World} (h : Below a.heap.size a b) (k : Below b.heap.size b c) : Below a.heap.size a c := h.trans (k.mono h.size)
theorem below_drew (w : World) : Below w.heap.size w w.drew := (Below.refl _ _).drew
theorem hide {p : Prop} (h : p) : Hid p := h

end Go.Proofs.Ytdpbkhempgghaaa
