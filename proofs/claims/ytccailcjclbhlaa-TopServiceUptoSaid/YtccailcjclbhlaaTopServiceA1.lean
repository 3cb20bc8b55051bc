/-
  A part of the proof of ServePlays: Base PlainB
-/
import Derived.Test.YtccailcjclbhlaaRows
import Derived.WalkKit
import Derived.WalkSmall
import Derived.Deep.Draws
import Derived.Deep.Slices
import Derived.Laws.AppendOwnNone
import Derived.Laws.OwnMore
import Derived.Deep.AppendLies
/-! Several texts in one: -/
/-! Small lemmas on lists, worlds and slices, used by the walks of this seat. No condition, no program. -/
namespace Go.Proofs.Ytccailcjclbhlaa
open Go.RowKit

/-- an edge: from, to, cost -/
structure Ed where
  u : Int
  v : Int
  c : Int

/-- two numbers: a pair, a key with an id, a fraction -/
structure P2 where
  a : Int
  b : Int

def encI (x : Int) : List Value := [.int .i64 x]
def encB (x : Bool) : List Value := [.bool x]
def encE (e : Ed) : List Value := [.int .i64 e.u, .int .i64 e.v, .int .i64 e.c]
def encP (p : P2) : List Value := [.int .i64 p.a, .int .i64 p.b]
def encV (v : Value) : List Value := [v]

/-- the slice that begins at a reads as xs in w, each element laid out by enc in sz cells; all of it below block B -/
def Row {α : Type} (enc : α → List Value) (sz : Nat) (w : World) (B : Nat) (a : Option Addr) (xs : List α) : Prop :=
  ∀ i (h : i < xs.length), ∃ b o, a = some ⟨b, o, none⟩ ∧ b < B ∧ ∀ j u, (enc xs[i])[j]? = some u → w.cell? ⟨b, o + i * sz + j, none⟩ = some u

theorem Row.nil {α : Type} (enc : α → List Value) (sz : Nat) (w : World) (B : Nat) (a : Option Addr) : Row enc sz w B a [] := by
  intro i h; cases h
theorem Row.mono {α : Type} {enc : α → List Value} {sz : Nat} {w : World} {B B' : Nat} {a : Option Addr} {xs : List α} (h : Row enc sz w B a xs) (hB : B ≤ B') : Row enc sz w B' a xs := by
  intro i hi
  obtain ⟨b, o, h1, h2, h3⟩ := h i hi
  exact ⟨b, o, h1, by omega, h3⟩
theorem Row.below {α : Type} {enc : α → List Value} {sz : Nat} {w w' : World} {B C : Nat} {a : Option Addr} {xs : List α} (h : Row enc sz w B a xs) (hb : Below C w w') (hB : B ≤ C) : Row enc sz w' B a xs := by
  intro i hi
  obtain ⟨b, o, h1, h2, h3⟩ := h i hi
  exact ⟨b, o, h1, h2, fun j u hu => by rw [hb.cell (by simp; omega)]; exact h3 j u hu⟩
theorem Row.ed {w : World} {B : Nat} {a : Option Addr} {es : List Ed} (h : Row encE 3 w B a es) (i : Nat) (hi : i < es.length) :
    ∃ b o, a = some ⟨b, o, none⟩ ∧ b < B ∧ w.cell? ⟨b, o + i * 3, none⟩ = some (.int .i64 es[i].u) ∧ w.cell? ⟨b, o + i * 3 + 1, none⟩ = some (.int .i64 es[i].v) ∧ w.cell? ⟨b, o + i * 3 + 2, none⟩ = some (.int .i64 es[i].c) := by
  obtain ⟨b, o, h1, h2, h3⟩ := h i hi
  exact ⟨b, o, h1, h2, h3 0 _ rfl, h3 1 _ rfl, h3 2 _ rfl⟩
theorem Row.p2 {w : World} {B : Nat} {a : Option Addr} {es : List P2} (h : Row encP 2 w B a es) (i : Nat) (hi : i < es.length) :
    ∃ b o, a = some ⟨b, o, none⟩ ∧ b < B ∧ w.cell? ⟨b, o + i * 2, none⟩ = some (.int .i64 es[i].a) ∧ w.cell? ⟨b, o + i * 2 + 1, none⟩ = some (.int .i64 es[i].b) := by
  obtain ⟨b, o, h1, h2, h3⟩ := h i hi
  exact ⟨b, o, h1, h2, h3 0 _ rfl, h3 1 _ rfl⟩
theorem Row.int {w : World} {B : Nat} {a : Option Addr} {xs : List Int} (h : Row encI 1 w B a xs) (i : Nat) (hi : i < xs.length) :
    ∃ b o, a = some ⟨b, o, none⟩ ∧ b < B ∧ w.cell? ⟨b, o + i, none⟩ = some (.int .i64 xs[i]) := by
  obtain ⟨b, o, h1, h2, h3⟩ := h i hi
  exact ⟨b, o, h1, h2, by simpa using h3 0 _ rfl⟩
theorem ret_int {k : IntKind} {a b : Int} (h : a = b) : Ending.returned (.int k a) = .returned (.int k b) := by rw [h]
theorem ret_bool {a b : Bool} (h : a = b) : Ending.returned (.bool a) = .returned (.bool b) := by rw [h]

theorem cell_alloc {w : World} {p : Addr} {v : Value} (h : w.cell? p = some v) (hlt : p.block < w.heap.size) (o : Obj) : (w.alloc o).cell? p = some v := by
  rw [((Below.refl _ _).alloc (Nat.le_refl _) o : Below w.heap.size w (w.alloc o)).cell hlt]; exact h
theorem lt_alloc {w : World} {n : Nat} (h : n < w.heap.size) (o : Obj) : n < (w.alloc o).heap.size := by simp; omega

/-- all old cells and marks read as before: two rules for the walk -/
theorem bcell {W w1 : World} (hb : Below W.heap.size W w1) : (∀ b o, b < W.heap.size → w1.cell? ⟨b, o, none⟩ = W.cell? ⟨b, o, none⟩) ∧ (∀ b o, b < W.heap.size → w1.frozen? ⟨b, o, none⟩ = W.frozen? ⟨b, o, none⟩) :=
  ⟨fun b o h => hb.cell (p := ⟨b, o, none⟩) h, fun b o h => hb.frozen (p := ⟨b, o, none⟩) h⟩

theorem below_step {a b c : World} (h : Below a.heap.size a b) (k : Below b.heap.size b c) : Below a.heap.size a c := h.trans (k.mono h.size)
theorem below_drew (w : World) : Below w.heap.size w w.drew := (Below.refl _ _).drew
theorem hide {p : Prop} (h : p) : Hid p := h

end Go.Proofs.Ytccailcjclbhlaa

/-! A set of places that grows round by round stands still after as many rounds as there are places. No program here. -/
namespace Go.Proofs.Ytccailcjclbhlaa

theorem count_le {p q : Nat → Bool} : ∀ {l : List Nat}, (∀ v ∈ l, p v = true → q v = true) → l.countP p ≤ l.countP q
  | [], _ => by simp
  | x :: r, h => by
    have ih := count_le (p := p) (q := q) (l := r) (fun v hv => h v (List.mem_cons_of_mem _ hv))
    rw [List.countP_cons, List.countP_cons]
    by_cases hp : p x = true
    · rw [if_pos hp, if_pos (h x (List.mem_cons_self ..) hp)]; omega
    · rw [if_neg hp]; omega
theorem count_lt {p q : Nat → Bool} : ∀ {l : List Nat}, (∀ v ∈ l, p v = true → q v = true) → (∃ v ∈ l, q v = true ∧ ¬ p v = true) → l.countP p < l.countP q
  | [], _, h => by obtain ⟨v, hv, _⟩ := h; cases hv
  | x :: r, h, ⟨v, hv, hq, hp⟩ => by
    have hr := fun u hu => h u (List.mem_cons_of_mem x hu)
    rw [List.countP_cons, List.countP_cons]
    cases hv with
    | head =>
      have := count_le hr
      rw [if_pos hq, if_neg hp]; omega
    | tail _ hm =>
      have := count_lt hr ⟨v, hm, hq, hp⟩
      by_cases hx : p x = true
      · rw [if_pos hx, if_pos (h x (List.mem_cons_self ..) hx)]; omega
      · rw [if_neg hx]; omega
/-- the sets S 0, S 1, .. of places below n: each in the next; once two that follow each other are the same, so are the later ones; the first is not empty -/
theorem grow {n : Nat} (S : Nat → Nat → Bool) (up : ∀ t v, v < n → S t v = true → S (t + 1) v = true)
    (still : ∀ t, (∀ v, v < n → S (t + 1) v = true → S t v = true) → ∀ v, v < n → S (t + 2) v = true → S (t + 1) v = true)
    (h0 : ∃ v, v < n ∧ S 0 v = true) : ∀ t, n ≤ t + 1 → ∀ v, v < n → S (t + 1) v = true → S t v = true := by
  have key : ∀ t, (∀ v, v < n → S (t + 1) v = true → S t v = true) ∨ t + 2 ≤ (List.range n).countP (S (t + 1)) := by
    intro t
    induction t with
    | zero =>
      by_cases hs : ∀ v, v < n → S 1 v = true → S 0 v = true
      · exact .inl hs
      · right
        simp only [Classical.not_forall] at hs
        obtain ⟨v, hv, h1, h2⟩ := hs
        have c1 := count_lt (p := S 0) (q := S 1) (l := List.range n) (fun u hu => up 0 u (List.mem_range.1 hu)) ⟨v, List.mem_range.2 hv, h1, h2⟩
        obtain ⟨u, hu, hu2⟩ := h0
        have c0 : 0 < (List.range n).countP (S 0) := List.countP_pos_iff.2 ⟨u, List.mem_range.2 hu, hu2⟩
        show 0 + 2 ≤ (List.range n).countP (S 1)
        omega
    | succ t ih =>
      by_cases hs : ∀ v, v < n → S (t + 2) v = true → S (t + 1) v = true
      · exact .inl hs
      · right
        rcases ih with h | h
        · exact absurd (still t h) hs
        · simp only [Classical.not_forall] at hs
          obtain ⟨v, hv, h1, h2⟩ := hs
          have c1 := count_lt (p := S (t + 1)) (q := S (t + 2)) (l := List.range n) (fun u hu => up (t + 1) u (List.mem_range.1 hu)) ⟨v, List.mem_range.2 hv, h1, h2⟩
          show t + 1 + 2 ≤ (List.range n).countP (S (t + 2))
          omega
  intro t ht
  rcases key t with h | h
  · exact h
  · have : (List.range n).countP (S (t + 1)) ≤ n := by simpa using List.countP_le_length (p := S (t + 1)) (l := List.range n)
    omega
end Go.Proofs.Ytccailcjclbhlaa

/-! Cells and marks carried to later worlds: behind a draw, a new block, a store elsewhere. No program. -/
namespace Go.Proofs.Ytccailcjclbhlaa
open Go.RowKit

theorem cu_drew {w : World} {p : Addr} {v : Value} (h : w.cell? p = some v) : w.drew.cell? p = some v := h
theorem cu_drewN {w : World} {p : Addr} {v : Value} {n : Nat} (h : w.cell? p = some v) : (w.drewN n).cell? p = some v := h
theorem cell_lt {w : World} {p : Addr} {v : Value} (h : w.cell? p = some v) : p.block < w.heap.size := by
  unfold World.cell? at h
  rcases Nat.lt_or_ge p.block w.heap.size with h' | h'
  · exact h'
  · rw [Array.getElem?_eq_none h'] at h; simp at h
theorem cu_alloc {w : World} {p : Addr} {v : Value} {o : Obj} (h : w.cell? p = some v) : (w.alloc o).cell? p = some v := cell_alloc h (cell_lt h) o
theorem cu_set {w : World} {p q : Addr} {v u : Value} (h : w.cell? p = some v) (hne : q.block ≠ p.block) : (w.setCell q u).cell? p = some v := by
  rw [World.cell?_of_block (w := w) (Below.heap_setCell w q u p.block (fun e => hne e.symm))]; exact h
theorem cu_set_off {w : World} {b i j : Nat} {v u : Value} (h : w.cell? ⟨b, i, none⟩ = some v) (hne : j ≠ i) : (w.setCell ⟨b, j, none⟩ u).cell? ⟨b, i, none⟩ = some v := by
  simp only [World.cell?, World.setCell, Array.getElem?_modify, if_true] at h ⊢
  cases hb : w.heap[b]? with
  | none => rw [hb] at h; simp at h
  | some o =>
    rw [hb] at h
    cases o <;> simp_all
theorem cu_below {w w' : World} {B : Nat} {p : Addr} {v : Value} (hb : Below B w w') (h : w.cell? p = some v) (hlt : p.block < B) : w'.cell? p = some v := by rw [hb.cell hlt]; exact h
theorem fu_drew {w : World} {p : Addr} (h : w.frozen? p = false) : w.drew.frozen? p = false := h
theorem fu_drewN {w : World} {p : Addr} {n : Nat} (h : w.frozen? p = false) : (w.drewN n).frozen? p = false := h
theorem fu_set {w : World} {p q : Addr} {u : Value} (h : w.frozen? p = false) : (w.setCell q u).frozen? p = false := by
  rw [World.frozen?_setCell]; exact h
theorem fu_alloc {w : World} {p : Addr} {cs : Array Value} {t : TypeId} (h : w.frozen? p = false) : (w.alloc (.cells cs t)).frozen? p = false := by
  by_cases hb : p.block = w.heap.size
  · obtain ⟨b, o, s⟩ := p
    simp only at hb
    subst hb
    unfold World.frozen?
    have e : (w.alloc (.cells cs t)).heap[w.heap.size]? = some (.cells cs t) := by show (w.heap.push _)[w.heap.size]? = _; simp
    simp only [e]
    simp
  · rw [World.frozen?_of_block (w := w) (by show (w.heap.push _)[p.block]? = _; rw [Array.getElem?_push, if_neg (by omega)])]
    exact h
theorem fu_below {w w' : World} {B : Nat} {p : Addr} (hb : Below B w w') (h : w.frozen? p = false) (hlt : p.block < B) : w'.frozen? p = false := by rw [hb.frozen hlt]; exact h

theorem up_drew {B : Nat} {w0 w : World} (h : Below B w0 w) : Below B w0 w.drew := h.drew
theorem up_drewN {B : Nat} {w0 w : World} {n : Nat} (h : Below B w0 w) : Below B w0 (w.drewN n) := below_drewN h n
theorem up_alloc {B : Nat} {w0 w : World} {o : Obj} (h : Below B w0 w) (hB : B ≤ w.heap.size) : Below B w0 (w.alloc o) := h.alloc hB o
theorem up_set {B : Nat} {w0 w : World} {p : Addr} {u : Value} (h : Below B w0 w) (hp : B ≤ p.block) : Below B w0 (w.setCell p u) := h.setCell hp u

/-- what was there stands: found by the rules above -/
theorem bel {B : Nat} {w w' : World} (h : Below B w w' := by repeat (first | with_reducible exact Below.refl _ _ | with_reducible assumption | with_reducible refine up_drewN ?_ | with_reducible refine up_drew ?_ | (with_reducible refine up_alloc ?_ ?_; rotate_left; (first | omega | (simp <;> omega) | simp)) | (with_reducible refine up_set ?_ ?_; rotate_left; (first | omega | (simp <;> omega) | simp)) | (with_reducible refine Below.trans ?_ (Below.mono (by with_reducible assumption) ?_); rotate_left; (first | omega | (simp <;> omega) | simp)))) : Below B w w' := h
end Go.Proofs.Ytccailcjclbhlaa

/-! Slices that a call makes itself: what they hold, how they grow by one element, how they are read. Conditions: bounds on lengths, as each theorem says. -/
namespace Go.Proofs.Ytccailcjclbhlaa
open Go.RowKit

/-- the slice value v, of element type e, is the call's own (blocks from base on) and holds xs -/
def Own {α : Type} (enc : α → List Value) (sz : Nat) (e : TypeId) (w : World) (base : Nat) (v : Value) (xs : List α) : Prop :=
  w.ownsRow base e sz v xs.length (xs.flatMap enc)

section
variable {α : Type} {enc : α → List Value} {sz : Nat} {e : TypeId} {w : World} {base : Nat} {v : Value} {xs : List α}

theorem Own.nil (w : World) (base : Nat) : Own enc sz e w base (.slice none 0 0) [] := World.ownsRow_nil w base e sz
theorem Own.alloc (h : Own enc sz e w base v xs) (o : Obj) : Own enc sz e (w.alloc o) base v xs := World.ownsRow.alloc h o
theorem Own.drew (h : Own enc sz e w base v xs) : Own enc sz e w.drew base v xs := World.ownsRow.drew h
theorem Own.setCell (h : Own enc sz e w base v xs) {a : Addr} (ha : a.block < base) (u : Value) : Own enc sz e (w.setCell a u) base v xs := ownsRow_setCell_below h ha u
theorem Own.base_le (h : Own enc sz e w base v xs) {base' : Nat} (hb : base' ≤ base) : Own enc sz e w base' v xs :=
  ⟨h.1, h.2.elim Or.inl (fun ⟨g, cap, cur, hv, hg, r⟩ => Or.inr ⟨g, cap, cur, hv, Nat.le_trans hb hg, r⟩)⟩
theorem Own.form (h : Own enc sz e w base v xs) : (v = .slice none 0 0 ∧ xs = []) ∨ ∃ g cap, v = .slice (some ⟨g, 0, none⟩) xs.length cap ∧ base ≤ g ∧ g < w.heap.size ∧ xs.length ≤ cap ∧ cap ≤ maxLen := by
  rcases h.2 with ⟨h1, h2⟩ | ⟨g, cap, cur, hv, hg, hh, h1, h2, _⟩
  · exact .inl ⟨h1, List.eq_nil_of_length_eq_zero h2⟩
  · exact .inr ⟨g, cap, hv, hg, (Array.getElem?_eq_some_iff.1 hh).1, h1, h2⟩
theorem Own.block_lt (h : Own enc sz e w base v xs) : ∀ k, v.ownBlock = some k → base ≤ k ∧ k < w.heap.size := by
  intro k hk
  rcases h.form with ⟨rfl, _⟩ | ⟨g, cap, rfl, h1, h2, _⟩
  · simp [Value.ownBlock] at hk
  · simp [Value.ownBlock] at hk; subst hk; exact ⟨h1, h2⟩
/-- it stays as it is where its own block is not written -/
theorem Own.below (h : Own enc sz e w base v xs) {w' : World} {C : Nat} (hb : Below C w w') (hC : w.heap.size ≤ C) : Own enc sz e w' base v xs := by
  refine ⟨h.1, ?_⟩
  rcases h.2 with hn | ⟨g, cap, cur, hv, hg, hh, r⟩
  · exact .inl hn
  · refine .inr ⟨g, cap, cur, hv, hg, ?_, r⟩
    rw [hb.block g (Nat.lt_of_lt_of_le (Array.getElem?_eq_some_iff.1 hh).1 hC)]
    exact hh
theorem Own.stays (h : Own enc sz e w base v xs) {w' : World} (hb : Below w.heap.size w w') : Own enc sz e w' base v xs := h.below hb (Nat.le_refl _)

theorem flat_get (hlen : ∀ x, (enc x).length = sz) : ∀ (xs : List α) (i : Nat) (hi : i < xs.length) (j : Nat) (u : Value), (enc xs[i])[j]? = some u → (xs.flatMap enc)[i * sz + j]? = some u
  | [], i, hi, _, _, _ => by simp at hi
  | x :: r, 0, _, j, u, h => by
    have hj := (List.getElem?_eq_some_iff.1 h).1
    simp only [List.flatMap_cons, Nat.zero_mul, Nat.zero_add]
    rw [List.getElem?_append_left (by simpa using hj)]
    simpa using h
  | x :: r, i + 1, hi, j, u, h => by
    simp only [List.flatMap_cons]
    rw [List.getElem?_append_right (by rw [hlen, Nat.succ_mul]; omega), hlen, show (i + 1) * sz + j - sz = i * sz + j by rw [Nat.succ_mul]; omega]
    exact flat_get hlen r i (by simpa using hi) j u (by simpa using h)

theorem Own.shape (h : Own enc sz e w base v xs) {n : Nat} (hn : xs.length = n) : ∃ a c, v = .slice a n c := by
  subst hn
  rcases h.form with ⟨rfl, rfl⟩ | ⟨g, cap, rfl, _⟩
  · exact ⟨_, _, rfl⟩
  · exact ⟨_, _, rfl⟩
/-- read it as a row -/
theorem Own.row (h : Own enc sz e w base v xs) (hlen : ∀ x, (enc x).length = sz) : ∃ a cap, v = .slice a xs.length cap ∧ Row enc sz w w.heap.size a xs ∧ xs.length ≤ cap ∧ cap ≤ maxLen := by
  rcases h.form with ⟨rfl, rfl⟩ | ⟨g, cap, rfl, h1, h2, h3, h4⟩
  · exact ⟨none, 0, rfl, Row.nil _ _ _ _ _, Nat.le_refl _, Nat.zero_le _⟩
  · refine ⟨some ⟨g, 0, none⟩, cap, rfl, ?_, h3, h4⟩
    intro i hi
    refine ⟨g, 0, rfl, h2, fun j u hu => ?_⟩
    have := World.ownsRow.cells h (g := g) rfl (i * sz + j) u (flat_get hlen xs i hi j u hu)
    rw [WideShapes.add_plain, Nat.zero_add] at this
    rw [Nat.zero_add]
    exact this

/-- append of one element to a slice of the call's own -/
theorem wpList_push {P : Program} {ops : Array Oper} {rest : List Oper} {o : Oper} {a : Act} {Q : Exit → Act → World → Prop} (hgd : o.guard = none) (s x : Operand) (t : TypeId)
    (ho : o.op = .call { callee := .builtin .append, args := #[s, x], argTypes := #[t, t] })
    (z : Value) (bytes : Nat) (ht : P.underlying t = some (.slice e)) (hinf : (P.info? e).map (fun i => (i.zero, i.size, i.bytes)) = some (some z, sz, bytes)) (hzs : z.cells.size = sz) (hsz : 0 < sz)
    (hlen : ∀ x, (enc x).length = sz) (hone : ∀ x, ∀ u ∈ enc x, u.oneCell' = true)
    (n : Nat) (hn : xs.length = n) (hs : a.eval s = v) (own : Own enc sz e w base v xs) (ad : Addr) (c : Nat) (y : α) (hx : a.eval x = .slice (some ad) 1 c)
    (hcells : ∀ j u, (enc y)[j]? = some u → w.cell? (ad.add j) = some u) (hbound : (n + 1) * bytes ≤ 140737488355328) (hmax : n + 1 ≤ maxLen) (hbase : base ≤ w.heap.size)
    (h : ∀ g c' w', Own enc sz e w' base (.slice (some ⟨g, 0, none⟩) (n + 1) c') (xs ++ [y]) → Below base w w' → w.grownBy w' v.ownBlock → base ≤ g → g < w'.heap.size → wpList P ops Q rest (a.put o.dst (.slice (some ⟨g, 0, none⟩) (n + 1) c')) w') : wpList P ops Q (o :: rest) a w := by
  subst hn
  obtain ⟨i0, hi, hz0, hz1, hz2⟩ := info_parts hinf
  refine wpList_append_own w hgd s x t ho base e i0 z sz bytes ht hi hz0 hz1 hz2 hzs hsz v xs.length (xs.flatMap enc) hs own ad 1 c (enc y) hx (by rw [hlen, Nat.one_mul]) hcells (hone y) hmax hbound hbase ?_
  intro v' w' own' hg _
  have own2 : Own enc sz e w' base v' (xs ++ [y]) := by
    unfold Own
    rw [List.length_append, List.flatMap_append]
    simpa using own'
  rcases own2.form with ⟨_, hh⟩ | ⟨g, cap, hv, h1, h2, _⟩
  · simp at hh
  rw [List.length_append, List.length_singleton] at hv
  subst hv
  refine h g cap w' own2 ?_ hg h1 h2
  · exact (Below.refl _ _).grown hg hbase (fun k hk => (own.block_lt k hk).1)
end

theorem unalloc {B : Nat} {w w' : World} {o : Obj} (h : Below B (w.alloc o) w') (hB : B ≤ w.heap.size) : Below B w w' := ((Below.refl B w).alloc hB o).trans h
theorem lenI (x : Int) : (encI x).length = 1 := rfl
theorem lenB (x : Bool) : (encB x).length = 1 := rfl
theorem lenE (x : Ed) : (encE x).length = 3 := rfl
theorem lenP (x : P2) : (encP x).length = 2 := rfl
theorem lenV (x : Value) : (encV x).length = 1 := rfl
theorem oneI (x : Int) : ∀ u ∈ encI x, u.oneCell' = true := by intro u hu; simp [encI] at hu; subst hu; rfl
theorem oneE (x : Ed) : ∀ u ∈ encE x, u.oneCell' = true := by intro u hu; simp [encE] at hu; rcases hu with rfl | rfl | rfl <;> rfl
theorem oneP (x : P2) : ∀ u ∈ encP x, u.oneCell' = true := by intro u hu; simp [encP] at hu; rcases hu with rfl | rfl <;> rfl

/-- the one element that an append takes, laid in a new block -/
theorem newI (w : World) (t : TypeId) (x : Int) (g : Nat) (hg : g = w.heap.size) : ∀ j u, (encI x)[j]? = some u → (w.alloc (.cells #[.int .i64 x] t)).cell? ((⟨g, 0, none⟩ : Addr).add j) = some u := by
  intro j u hj; subst hg
  match j, hj with
  | 0, hj => simp [encI] at hj; subst hj; simp [Addr.add]
theorem newE (w : World) (t : TypeId) (x : Ed) (g : Nat) (hg : g = w.heap.size) : ∀ j u, (encE x)[j]? = some u → (w.alloc (.cells #[.int .i64 x.u, .int .i64 x.v, .int .i64 x.c] t)).cell? ((⟨g, 0, none⟩ : Addr).add j) = some u := by
  intro j u hj; subst hg
  match j, hj with
  | 0, hj => simp [encE] at hj; subst hj; simp [Addr.add]
  | 1, hj => simp [encE] at hj; subst hj; simp [WideShapes.add_plain]
  | 2, hj => simp [encE] at hj; subst hj; simp [WideShapes.add_plain]
theorem newP (w : World) (t : TypeId) (x : P2) (g : Nat) (hg : g = w.heap.size) : ∀ j u, (encP x)[j]? = some u → (w.alloc (.cells #[.int .i64 x.a, .int .i64 x.b] t)).cell? ((⟨g, 0, none⟩ : Addr).add j) = some u := by
  intro j u hj; subst hg
  match j, hj with
  | 0, hj => simp [encP] at hj; subst hj; simp [Addr.add]
  | 1, hj => simp [encP] at hj; subst hj; simp [WideShapes.add_plain]

end Go.Proofs.Ytccailcjclbhlaa

/-! append of a whole slice to a slice of the call's own. Conditions: bounds on lengths. -/
namespace Go.Proofs.Ytccailcjclbhlaa
open Go.RowKit

theorem Row.flat {α : Type} {enc : α → List Value} {sz : Nat} {w : World} {B : Nat} {a : Option Addr} {xs : List α} (hlen : ∀ x, (enc x).length = sz) (hpos : 0 < sz) (h : Row enc sz w B a xs) (ad : Addr) (ha : a = some ad) :
    ∀ j u, (xs.flatMap enc)[j]? = some u → w.cell? (ad.add j) = some u := by
  intro j u hu
  have hj := (List.getElem?_eq_some_iff.1 hu).1
  have hfl : (xs.flatMap enc).length = xs.length * sz := by
    clear h hu hj
    induction xs with
    | nil => simp
    | cons x r ih => simp only [List.flatMap_cons, List.length_append, ih, hlen, List.length_cons, Nat.succ_mul]; omega
  rw [hfl] at hj
  have hi : j / sz < xs.length := (Nat.div_lt_iff_lt_mul hpos).2 hj
  obtain ⟨b, o, h1, _, h3⟩ := h (j / sz) hi
  have hm : j % sz < (enc xs[j / sz]).length := by rw [hlen]; exact Nat.mod_lt _ hpos
  have e1 : j / sz * sz + j % sz = j := by rw [Nat.mul_comm]; exact Nat.div_add_mod j sz
  have h4 := flat_get hlen xs (j / sz) hi (j % sz) _ (List.getElem?_eq_getElem hm)
  rw [e1, hu] at h4
  rw [ha] at h1
  obtain rfl : ad = ⟨b, o, none⟩ := by simpa using h1
  rw [WideShapes.add_plain, Option.some.inj h4]
  have h5 := h3 (j % sz) _ (List.getElem?_eq_getElem hm)
  rw [Nat.add_assoc, e1] at h5
  exact h5

end Go.Proofs.Ytccailcjclbhlaa

/-! Elements of a slice of the call's own: read, and stored into. Conditions: the index is in bounds. -/
namespace Go.Proofs.Ytccailcjclbhlaa
open Go.RowKit

section
variable {α : Type} {enc : α → List Value} {sz : Nat} {e : TypeId} {w : World} {base : Nat} {xs : List α} {g n c : Nat}

theorem flat_set (hlen : ∀ x, (enc x).length = sz) : ∀ (xs : List α) (i : Nat) (hi : i < xs.length) (j : Nat) (u : Value) (x' : α), j < sz → enc x' = (enc xs[i]).set j u → (xs.set i x').flatMap enc = (xs.flatMap enc).set (i * sz + j) u
  | [], i, hi, _, _, _, _, _ => by simp at hi
  | x :: r, 0, _, j, u, x', hj, h => by
    have h' : enc x' = (enc x).set j u := by simpa using h
    simp only [List.set_cons_zero, List.flatMap_cons, Nat.zero_mul, Nat.zero_add]
    rw [h', List.set_append_left _ _ (by rw [hlen]; exact hj)]
  | x :: r, i + 1, hi, j, u, x', hj, h => by
    simp only [List.set_cons_succ, List.flatMap_cons]
    rw [List.set_append_right _ _ (by rw [hlen, Nat.succ_mul]; omega), hlen, show (i + 1) * sz + j - sz = i * sz + j by rw [Nat.succ_mul]; omega]
    rw [flat_set hlen r i (by simpa using hi) j u x' hj (by simpa using h)]

theorem Own.len (h : Own enc sz e w base (.slice (some ⟨g, 0, none⟩) n c) xs) : xs.length = n := by
  rcases h.form with ⟨h1, _⟩ | ⟨g', c', h1, _⟩
  · cases h1
  · simp only [Value.slice.injEq] at h1; exact h1.2.1.symm
theorem Own.get (h : Own enc sz e w base (.slice (some ⟨g, 0, none⟩) n c) xs) (hlen : ∀ x, (enc x).length = sz) (i : Nat) (hi : i < xs.length) (j : Nat) (u : Value) (hu : (enc xs[i])[j]? = some u) : w.cell? ⟨g, i * sz + j, none⟩ = some u := by
  have := World.ownsRow.cells h (g := g) rfl (i * sz + j) u (flat_get hlen xs i hi j u hu)
  rwa [WideShapes.add_plain, Nat.zero_add] at this
theorem Own.free (h : Own enc sz e w base (.slice (some ⟨g, 0, none⟩) n c) xs) (j : Nat) : w.frozen? ⟨g, j, none⟩ = false := by
  have hl := h.len
  subst hl
  exact World.ownsRow.frozenAt h j
theorem Own.at_base (h : Own enc sz e w base (.slice (some ⟨g, 0, none⟩) n c) xs) : base ≤ g ∧ g < w.heap.size := h.block_lt g rfl
theorem Own.put (h : Own enc sz e w base (.slice (some ⟨g, 0, none⟩) n c) xs) (hlen : ∀ x, (enc x).length = sz) (i : Nat) (hi : i < xs.length) (j : Nat) (hj : j < sz) (u : Value) (x' : α) (hx : enc x' = (enc xs[i]).set j u) :
    Own enc sz e (w.setCell ⟨g, i * sz + j, none⟩ u) base (.slice (some ⟨g, 0, none⟩) n c) (xs.set i x') := by
  have hl := h.len
  subst hl
  have := (World.ownsRow.stored h (i * sz + j) u).1
  rw [← flat_set hlen xs i hi j u x' hj hx] at this
  unfold Own
  rw [List.length_set]
  exact this
/-- a store elsewhere -/
theorem Own.elsewhere {v : Value} (h : Own enc sz e w base v xs) {p : Addr} (hp : v.ownBlock ≠ some p.block) (u : Value) : Own enc sz e (w.setCell p u) base v xs := by
  refine ⟨h.1, ?_⟩
  rcases h.2 with hn | ⟨g, cap, cur, hv, hg, hh, r⟩
  · exact .inl hn
  · refine .inr ⟨g, cap, cur, hv, hg, ?_, r⟩
    rw [Below.heap_setCell _ _ _ _ (by rw [hv] at hp; simp [Value.ownBlock] at hp; omega)]
    exact hh
end

theorem Own.getI {e : TypeId} {w : World} {base : Nat} {xs : List Int} {g n c : Nat} (h : Own encI 1 e w base (.slice (some ⟨g, 0, none⟩) n c) xs) (i : Nat) (hi : i < xs.length) : w.cell? ⟨g, i, none⟩ = some (.int .i64 xs[i]) := by
  simpa using h.get lenI i hi 0 _ rfl
theorem Own.getB {e : TypeId} {w : World} {base : Nat} {xs : List Bool} {g n c : Nat} (h : Own encB 1 e w base (.slice (some ⟨g, 0, none⟩) n c) xs) (i : Nat) (hi : i < xs.length) : w.cell? ⟨g, i, none⟩ = some (.bool xs[i]) := by
  simpa using h.get lenB i hi 0 _ rfl
theorem Own.getE {e : TypeId} {w : World} {base : Nat} {xs : List Ed} {g n c : Nat} (h : Own encE 3 e w base (.slice (some ⟨g, 0, none⟩) n c) xs) (i : Nat) (hi : i < xs.length) :
    w.cell? ⟨g, i * 3, none⟩ = some (.int .i64 xs[i].u) ∧ w.cell? ⟨g, i * 3 + 1, none⟩ = some (.int .i64 xs[i].v) ∧ w.cell? ⟨g, i * 3 + 2, none⟩ = some (.int .i64 xs[i].c) :=
  ⟨by simpa using h.get lenE i hi 0 _ rfl, h.get lenE i hi 1 _ rfl, h.get lenE i hi 2 _ rfl⟩
theorem Own.putI {e : TypeId} {w : World} {base : Nat} {xs : List Int} {g n c : Nat} (h : Own encI 1 e w base (.slice (some ⟨g, 0, none⟩) n c) xs) (i : Nat) (hi : i < xs.length) (x : Int) :
    Own encI 1 e (w.setCell ⟨g, i, none⟩ (.int .i64 x)) base (.slice (some ⟨g, 0, none⟩) n c) (xs.set i x) := by
  simpa using h.put lenI i hi 0 (by omega) (.int .i64 x) x rfl
theorem Own.putB {e : TypeId} {w : World} {base : Nat} {xs : List Bool} {g n c : Nat} (h : Own encB 1 e w base (.slice (some ⟨g, 0, none⟩) n c) xs) (i : Nat) (hi : i < xs.length) (x : Bool) :
    Own encB 1 e (w.setCell ⟨g, i, none⟩ (.bool x)) base (.slice (some ⟨g, 0, none⟩) n c) (xs.set i x) := by
  simpa using h.put lenB i hi 0 (by omega) (.bool x) x rfl

end Go.Proofs.Ytccailcjclbhlaa

/-! Slices of slices of numbers: one that the call makes itself, row by row its own; one that is only read. Conditions: as each theorem says. -/
namespace Go.Proofs.Ytccailcjclbhlaa
open Go.RowKit

/-- the slice of slices v (its own elements of type eo, those of its rows of type ei) is the call's own, rows apart from each other -/
def Own2 {α : Type} (enc : α → List Value) (sz : Nat) (eo ei : TypeId) (w : World) (base : Nat) (v : Value) (rows : List (List α)) : Prop :=
  ∃ vs : List Value, vs.length = rows.length ∧ Own encV 1 eo w base v vs ∧ (∀ i (h : i < rows.length) (h' : i < vs.length), Own enc sz ei w base vs[i] rows[i]) ∧
    ∀ i j (hi : i < vs.length) (hj : j < vs.length) k, i ≠ j → vs[i].ownBlock = some k → vs[j].ownBlock ≠ some k

section
variable {α : Type} {enc : α → List Value} {sz : Nat} {eo ei : TypeId} {w : World} {base : Nat} {v : Value} {rows : List (List α)}

theorem Own.type {e : TypeId} {xs : List α} (h : Own enc sz e w base v xs) {k : Nat} (hk : v.ownBlock = some k) : ∃ cur, w.heap[k]? = some (.cells cur e (0, 0)) := by
  rcases h.2 with ⟨rfl, _⟩ | ⟨g, cap, cur, rfl, hg, hh, _⟩
  · simp [Value.ownBlock] at hk
  · simp [Value.ownBlock] at hk; subst hk; exact ⟨cur, hh⟩
theorem Own2.alloc (h : Own2 enc sz eo ei w base v rows) (o : Obj) : Own2 enc sz eo ei (w.alloc o) base v rows := by
  obtain ⟨vs, h1, h2, h3, h4⟩ := h
  exact ⟨vs, h1, h2.alloc o, fun i hi hi' => (h3 i hi hi').alloc o, h4⟩
theorem Own2.drew (h : Own2 enc sz eo ei w base v rows) : Own2 enc sz eo ei w.drew base v rows := h
/-- one row read: its cell, its own slice -/
theorem Own2.at {g n c : Nat} (h : Own2 enc sz eo ei w base (.slice (some ⟨g, 0, none⟩) n c) rows) (u : Nat) (hu : u < rows.length) :
    ∃ av cv, w.cell? ⟨g, u, none⟩ = some (.slice av rows[u].length cv) ∧ Own enc sz ei w base (.slice av rows[u].length cv) rows[u] ∧ (∀ j, w.frozen? ⟨g, j, none⟩ = false) := by
  obtain ⟨vs, h1, h2, h3, _⟩ := h
  have hu' : u < vs.length := by omega
  obtain ⟨av, cv, hv⟩ := (h3 u hu hu').shape rfl
  refine ⟨av, cv, ?_, by rw [← hv]; exact h3 u hu hu', h2.free⟩
  have := h2.get lenV u hu' 0 vs[u] (by simp [encV])
  rw [← hv]; simpa using this

theorem Own2.apart {g n c : Nat} (h : Own2 enc sz eo ei w base (.slice (some ⟨g, 0, none⟩) n c) rows) (hne : eo ≠ ei) (u : Nat) (hu : u < rows.length) {v0 : Value} (hc : w.cell? ⟨g, u, none⟩ = some v0) : v0.ownBlock ≠ some g := by
  obtain ⟨vs, h1, h2, h3, _⟩ := h
  have hu' : u < vs.length := by omega
  have hv0 : vs[u] = v0 := by
    have := h2.get lenV u hu' 0 vs[u] (by simp [encV])
    simp at this
    rw [this] at hc
    exact Option.some.inj hc
  intro e
  rw [← hv0] at e
  obtain ⟨cur, hcur⟩ := (h3 u hu hu').type e
  obtain ⟨cur', hcur'⟩ := h2.type (k := g) rfl
  rw [hcur] at hcur'
  simp at hcur'
  exact hne hcur'.2.symm
/-- a row that was appended to, stored back -/
theorem Own2.put {g n c : Nat} (h : Own2 enc sz eo ei w base (.slice (some ⟨g, 0, none⟩) n c) rows) (hne : eo ≠ ei) (u : Nat) (hu : u < rows.length) {v0 v' : Value} (hc : w.cell? ⟨g, u, none⟩ = some v0) {w' : World} {xs' : List α}
    (hg : w.grownBy w' v0.ownBlock) (own' : Own enc sz ei w' base v' xs') (hat : ∀ k, v'.ownBlock = some k → v0.ownBlock = some k ∨ w.heap.size ≤ k) :
    Own2 enc sz eo ei (w'.setCell ⟨g, u, none⟩ v') base (.slice (some ⟨g, 0, none⟩) n c) (rows.set u xs') := by
  obtain ⟨vs, h1, h2, h3, h4⟩ := h
  have hu' : u < vs.length := by omega
  have hv0 : vs[u] = v0 := by
    have := h2.get lenV u hu' 0 vs[u] (by simp [encV])
    simp at this
    rw [this] at hc
    exact Option.some.inj hc
  have hgt : ∃ cur, w.heap[g]? = some (.cells cur eo (0, 0)) := h2.type rfl
  have hgl : g < w.heap.size := h2.at_base.2
  -- the outer block is none of the rows'
  have houter : ∀ i (hi : i < vs.length) k, vs[i].ownBlock = some k → k ≠ g := by
    intro i hi k hk e
    subst e
    obtain ⟨cur, hcur⟩ := (h3 i (by omega) hi).type hk
    obtain ⟨cur', hcur'⟩ := hgt
    rw [hcur] at hcur'
    simp at hcur'
    exact hne hcur'.2.symm
  have h2' : Own encV 1 eo w' base (.slice (some ⟨g, 0, none⟩) n c) vs := World.ownsRow.kept h2 hg (by
    right
    intro e
    exact houter u hu' g (by rw [hv0]; exact e.symm) rfl)
  have hv'g : v'.ownBlock ≠ some g := by
    intro e
    rcases hat g e with e2 | e2
    · exact houter u hu' g (by rw [hv0]; exact e2) rfl
    · omega
  refine ⟨vs.set u v', by simp [h1], ?_, ?_, ?_⟩
  · have := h2'.put lenV u hu' 0 (by omega) v' v' rfl
    simpa using this
  · intro i hi hi'
    rw [List.length_set] at hi hi'
    by_cases e : u = i
    · subst e
      rw [List.getElem_set_self, List.getElem_set_self]
      exact own'.elsewhere hv'g _
    · rw [List.getElem_set_ne e, List.getElem_set_ne e]
      have hk : Own enc sz ei w' base vs[i] rows[i] := World.ownsRow.kept (h3 i hi hi') hg (by
        cases hob : vs[i].ownBlock with
        | none => left; rfl
        | some k =>
          right
          intro e2
          exact h4 i u hi' hu' k (fun e3 => e e3.symm) hob (by rw [hv0]; exact e2.symm))
      exact hk.elsewhere (by intro e2; exact houter i hi' g e2 rfl) _
  · intro i j hi hj k hij hki
    rw [List.length_set] at hi hj
    have key : ∀ i (hi : i < vs.length) k, i ≠ u → vs[i].ownBlock = some k → v'.ownBlock ≠ some k := by
      intro i hi k hiu hk e
      rcases hat k e with e2 | e2
      · exact h4 i u hi hu' k hiu hk (by rw [hv0]; exact e2)
      · have := (h3 i (by omega) hi).block_lt k hk; omega
    by_cases e : u = i
    · subst e
      rw [List.getElem_set_self] at hki
      rw [List.getElem_set_ne hij]
      intro e2
      exact key j hj k (fun e => hij e.symm) e2 hki
    · rw [List.getElem_set_ne e] at hki
      by_cases e3 : u = j
      · subst e3
        rw [List.getElem_set_self]
        exact key i hi k (fun e4 => e e4.symm) hki
      · rw [List.getElem_set_ne e3]
        exact h4 i j hi hj k hij hki
end

theorem made_rep (z : Value) (hz : z.cells = #[z]) (n : Nat) : (madeCells z.cells (n * 1)).toList = List.replicate n z := by
  rw [hz]
  apply List.ext_getElem
  · simp [madeCells]
  · intro i h1 h2
    simp [madeCells, Nat.mod_one]
theorem flat_rep {α : Type} (n : Nat) (x : α) (v : Value) (enc : α → List Value) (h : enc x = [v]) : (List.replicate n x).flatMap enc = List.replicate n v := by
  induction n with
  | zero => rfl
  | succ n ih => rw [List.replicate_succ, List.flatMap_cons, ih, h]; rfl
theorem own_made {α : Type} {enc : α → List Value} (w : World) (base n : Nat) (v : Value) (e : TypeId) (x : α) (z : Value) (hz : z.cells = #[z]) (hx : enc x = [z]) (hv : w.ownsRow base e 1 v n (madeCells z.cells (n * 1)).toList) : Own enc 1 e w base v (List.replicate n x) := by
  unfold Own
  rw [List.length_replicate, flat_rep n x z enc hx]
  rw [made_rep _ hz] at hv
  exact hv
theorem own2_made (w : World) (base g n : Nat) (eo ei : TypeId) (hv : w.ownsRow base eo 1 (.slice (some ⟨g, 0, none⟩) n n) n (madeCells (Value.slice none 0 0).cells (n * 1)).toList) : Own2 encI 1 eo ei w base (.slice (some ⟨g, 0, none⟩) n n) (List.replicate n ([] : List Int)) := by
  refine ⟨List.replicate n (.slice none 0 0), by simp, ?_, ?_, ?_⟩
  · unfold Own
    rw [List.length_replicate]
    rw [made_rep _ rfl] at hv
    rw [flat_rep n (.slice none 0 0) (.slice none 0 0) encV rfl]
    exact hv
  · intro i h h'
    simp only [List.getElem_replicate]
    exact Own.nil _ _
  · intro i j hi hj k _ hk
    simp [Value.ownBlock] at hk

end Go.Proofs.Ytccailcjclbhlaa

/-! Frames: a later world keeps all old blocks but those of a set. No condition, no program. -/
namespace Go.Proofs.Ytccailcjclbhlaa
open Go.RowKit

/-- w' is w but for new blocks and for what was written to blocks of the set S -/
structure Keep (S : Nat → Prop) (w w' : World) : Prop where
  os : w'.os = w.os
  tape : w'.tape = w.tape
  output : w'.output = w.output
  size : w.heap.size ≤ w'.heap.size
  block : ∀ k, k < w.heap.size → ¬ S k → w'.heap[k]? = w.heap[k]?

theorem Keep.refl (S : Nat → Prop) (w : World) : Keep S w w := ⟨rfl, rfl, rfl, Nat.le_refl _, fun _ _ _ => rfl⟩
theorem Keep.trans {S : Nat → Prop} {a b c : World} (h : Keep S a b) (k : Keep S b c) : Keep S a c :=
  ⟨k.os.trans h.os, k.tape.trans h.tape, k.output.trans h.output, Nat.le_trans h.size k.size, fun i hi hs => (k.block i (Nat.lt_of_lt_of_le hi h.size) hs).trans (h.block i hi hs)⟩
theorem Keep.mono {S T : Nat → Prop} {a b : World} (h : Keep S a b) (hs : ∀ k, k < a.heap.size → S k → T k) : Keep T a b :=
  ⟨h.os, h.tape, h.output, h.size, fun i hi ht => h.block i hi (fun x => ht (hs i hi x))⟩
theorem Keep.drew {S : Nat → Prop} {a b : World} (h : Keep S a b) : Keep S a b.drew := ⟨h.os, h.tape, h.output, h.size, h.block⟩
theorem Keep.drewN {S : Nat → Prop} {a b : World} (h : Keep S a b) (n : Nat) : Keep S a (b.drewN n) := by
  induction n with
  | zero => exact h
  | succ n ih => exact ⟨ih.os, ih.tape, ih.output, ih.size, ih.block⟩
theorem Keep.ofBelow {S : Nat → Prop} {B : Nat} {a b : World} (h : Below B a b) (hs : ∀ k, k < a.heap.size → B ≤ k → S k) : Keep S a b :=
  ⟨h.os, h.tape, h.output, h.size, fun i hi hn => h.block i (by
    rcases Nat.lt_or_ge i B with hh | hh
    · exact hh
    · exact absurd (hs i hi hh) hn)⟩
theorem Keep.new {S : Nat → Prop} {a b : World} (h : Below a.heap.size a b) : Keep S a b := Keep.ofBelow h (fun k h1 h2 => by omega)
theorem Keep.toBelow {S : Nat → Prop} {B : Nat} {a b : World} (h : Keep S a b) (hs : ∀ k, S k → B ≤ k) (hB : B ≤ a.heap.size) : Below B a b :=
  ⟨h.os, h.tape, h.output, h.size, fun i hi => h.block i (by omega) (fun x => by have := hs i x; omega)⟩
theorem Keep.alloc {S : Nat → Prop} {a b : World} (h : Keep S a b) (o : Obj) : Keep S a (b.alloc o) :=
  h.trans (Keep.new ((Below.refl _ _).alloc (Nat.le_refl _) o))
theorem Keep.setCell {S : Nat → Prop} {a b : World} (h : Keep S a b) {p : Addr} (hp : S p.block ∨ a.heap.size ≤ p.block) (u : Value) : Keep S a (b.setCell p u) := by
  refine ⟨h.os, h.tape, h.output, ?_, fun i hi hn => ?_⟩
  · have := h.size; simpa using this
  · rw [Below.heap_setCell _ _ _ _ (by rintro rfl; rcases hp with hp | hp; exact hn hp; omega)]
    exact h.block i hi hn
theorem Keep.grown {S : Nat → Prop} {a b c : World} {row : Option Nat} (h : Keep S a b) (hg : b.grownBy c row) (hr : ∀ k, row = some k → S k ∨ a.heap.size ≤ k) : Keep S a c :=
  ⟨hg.os.trans h.os, hg.tape.trans h.tape, hg.output.trans h.output, Nat.le_trans h.size hg.size, fun i hi hn => (hg.block i (Nat.lt_of_lt_of_le hi h.size) (by
    rintro rfl
    rcases hr i rfl with h1 | h1
    · exact hn h1
    · omega)).trans (h.block i hi hn)⟩
theorem Keep.cell {S : Nat → Prop} {w w' : World} (h : Keep S w w') {p : Addr} (hp : p.block < w.heap.size) (hs : ¬ S p.block) : w'.cell? p = w.cell? p := World.cell?_of_block (w := w) (h.block p.block hp hs)
theorem Keep.frozen {S : Nat → Prop} {w w' : World} (h : Keep S w w') {p : Addr} (hp : p.block < w.heap.size) (hs : ¬ S p.block) : w'.frozen? p = w.frozen? p := World.frozen?_of_block (w := w) (h.block p.block hp hs)
theorem Keep.cu {S : Nat → Prop} {w w' : World} (h : Keep S w w') {p : Addr} {v : Value} (hc : w.cell? p = some v) (hs : ¬ S p.block) : w'.cell? p = some v := by rw [h.cell (cell_lt hc) hs]; exact hc
theorem Keep.own {S : Nat → Prop} {α : Type} {enc : α → List Value} {sz : Nat} {e : TypeId} {w w' : World} {base : Nat} {v : Value} {xs : List α} (hk : Keep S w w') (h : Own enc sz e w base v xs) (hs : ∀ k, v.ownBlock = some k → ¬ S k) : Own enc sz e w' base v xs := by
  refine ⟨h.1, ?_⟩
  rcases h.2 with hn | ⟨g, cap, cur, hv, hg, hh, r⟩
  · exact .inl hn
  · refine .inr ⟨g, cap, cur, hv, hg, ?_, r⟩
    rw [hk.block g (Array.getElem?_eq_some_iff.1 hh).1 (hs g (by rw [hv]; rfl))]
    exact hh
end Go.Proofs.Ytccailcjclbhlaa

/-! make of a slice of numbers, of bools, of slices: what it holds. Conditions: bounds on the length. -/
namespace Go.Proofs.Ytccailcjclbhlaa
open Go.RowKit

theorem wpList_mk {α : Type} {enc : α → List Value} {e : TypeId} {P : Program} {w : World} {ops : Array Oper} {rest : List Oper} {o : Oper} {a : Act} {Q : Exit → Act → World → Prop} (hgd : o.guard = none) (l : Operand) (t : TypeId)
    (ho : o.op = Op.makeSlice t l l) (z : Value) (bytes : Nat) (x : α) (ht : P.underlying t = some (.slice e)) (hinf : (P.info? e).map (fun i => (i.zero, i.size, i.bytes)) = some (some z, 1, bytes)) (hz : z.cells = #[z]) (hx : enc x = [z])
    (n : Nat) (hl : a.eval l = .int .i64 (n : Int)) (hb : bytes * n ≤ 281474976710656) (hm : n ≤ maxLen) (base : Nat) (hbase : base ≤ w.heap.size)
    (h : ∀ w', Own enc 1 e w' base (.slice (some ⟨w.heap.size, 0, none⟩) n n) (List.replicate n x) → Below w.heap.size w w' → w.heap.size < w'.heap.size → wpList P ops Q rest (a.put o.dst (.slice (some ⟨w.heap.size, 0, none⟩) n n)) w') : wpList P ops Q (o :: rest) a w := by
  obtain ⟨i0, hi, hz0, hz1, hz2⟩ := info_parts hinf
  refine wpList_make_full w hgd l l t ho base e i0 z 1 ht hi hz0 hz1 .i64 .i64 (n : Int) (n : Int) n hl hl rfl rfl (by rw [hz2]; exact hb) hm hbase ?_
  intro w1 own1 hg1
  have own := own_made w1 base n _ e x z hz hx own1
  refine h w1 own ((Below.refl _ _).grown hg1 (Nat.le_refl _) (fun k hk => by cases hk)) ?_
  exact own.at_base.2
end Go.Proofs.Ytccailcjclbhlaa

/-! The rows of the program's table of types that the appends ask for. No condition. -/
namespace Go.Proofs.Ytccailcjclbhlaa
theorem info_ed : (Try.prog.info? 69).map (fun i => (i.zero, i.size, i.bytes)) = some (some (.agg #[.int .i64 0, .int .i64 0, .int .i64 0]), 3, 24) := by kernel_rfl
theorem info_int : (Try.prog.info? 3).map (fun i => (i.zero, i.size, i.bytes)) = some (some (.int .i64 0), 1, 8) := by kernel_rfl
theorem info_row : (Try.prog.info? 22).map (fun i => (i.zero, i.size, i.bytes)) = some (some (.slice none 0 0), 1, 24) := by kernel_rfl
theorem info_bool : (Try.prog.info? 4).map (fun i => (i.zero, i.size, i.bytes)) = some (some (.bool false), 1, 1) := by kernel_rfl
end Go.Proofs.Ytccailcjclbhlaa
/-! Several texts in one: -/
/-! Costs that give way edge by edge, in place and round by round, and what they come to. No program here. -/
namespace Go.Proofs.Ytccailcjclbhlaa
set_option linter.unusedVariables false

/-- where no walk leads -/
def FAR : Int := 1099511627776
/-- an edge between places: from, to, cost -/
structure NE where
  u : Nat
  v : Nat
  c : Int
def upz {α : Type} (f : Nat → α) (i : Nat) (x : α) : Nat → α := fun v => if v = i then x else f v
theorem upz_same {α : Type} (f : Nat → α) (i : Nat) (x : α) : upz f i x i = x := by simp [upz]
theorem upz_other {α : Type} (f : Nat → α) {i v : Nat} (x : α) (h : v ≠ i) : upz f i x v = f v := by simp [upz, h]

/-- one edge, all costs taken as they were -/
def spreadE (d nx : Nat → Int) (e : NE) : Nat → Int := if d e.u < FAR then upz nx e.v (min (nx e.v) (d e.u + e.c)) else nx
def spread1 (es : List NE) (d : Nat → Int) : Nat → Int := es.foldl (spreadE d) d
def spread (es : List NE) (d : Nat → Int) : Nat → (Nat → Int) | 0 => d | k + 1 => spread1 es (spread es d k)

/-- costs, where from, the last that gave way -/
structure BS where
  d : Nat → Int
  p : Nat → Int
  last : Int
/-- a walk from a start, and what it costs with the start's own cost -/
inductive At (es : List NE) (s : Nat → Int) : Nat → Int → Prop
  | base (v : Nat) (h : s v < FAR) : At es s v (s v)
  | step (e : NE) (x : Int) (he : e ∈ es) (h : At es s e.u x) (hx : x < FAR) (hy : x + e.c < FAR) : At es s e.v (x + e.c)
def Feas (es : List NE) (f : Nat → Int) : Prop := ∀ e ∈ es, f e.u < FAR → f e.v ≤ f e.u + e.c
def Att (es : List NE) (s f : Nat → Int) : Prop := ∀ v, f v ≤ s v ∧ (f v < FAR → At es s v (f v))

theorem at_ge {es : List NE} {s f : Nat → Int} (hf : Feas es f) (hs : ∀ v, f v ≤ s v) {v : Nat} {x : Int} (h : At es s v x) : f v ≤ x := by
  induction h with
  | base v h => exact hs v
  | step e x he h hx hy ih =>
    have := hf e he (by omega)
    omega

theorem spreadE_le (d nx : Nat → Int) (e : NE) (v : Nat) : spreadE d nx e v ≤ nx v := by
  unfold spreadE
  split
  · by_cases h : v = e.v
    · subst h; rw [upz_same]; omega
    · rw [upz_other _ _ h]; exact Int.le_refl _
  · exact Int.le_refl _
theorem foldE_le (d : Nat → Int) : ∀ (es : List NE) (nx : Nat → Int) (v : Nat), es.foldl (spreadE d) nx v ≤ nx v
  | [], nx, v => Int.le_refl _
  | e :: r, nx, v => Int.le_trans (foldE_le d r _ v) (spreadE_le d nx e v)
theorem spread1_le (es : List NE) (d : Nat → Int) (v : Nat) : spread1 es d v ≤ d v := foldE_le d es d v
theorem foldE_edge (d : Nat → Int) : ∀ (es : List NE) (nx : Nat → Int) (e : NE), e ∈ es → d e.u < FAR → es.foldl (spreadE d) nx e.v ≤ d e.u + e.c
  | x :: r, nx, e, he, hu => by
    rcases List.mem_cons.1 he with rfl | hm
    · refine Int.le_trans (foldE_le d r _ e.v) ?_
      unfold spreadE
      rw [if_pos hu, upz_same]
      omega
    · exact foldE_edge d r _ e hm hu
theorem spread1_edge (es : List NE) (d : Nat → Int) (e : NE) (he : e ∈ es) (hu : d e.u < FAR) : spread1 es d e.v ≤ d e.u + e.c := foldE_edge d es d e he hu
theorem foldE_ge {f d : Nat → Int} : ∀ (es : List NE) (nx : Nat → Int), Feas es f → (∀ v, f v ≤ d v) → (∀ v, f v ≤ nx v) → ∀ v, f v ≤ es.foldl (spreadE d) nx v
  | [], nx, _, _, h, v => h v
  | e :: r, nx, hf, hd, h, v => by
    refine foldE_ge r _ (fun e he => hf e (List.mem_cons_of_mem _ he)) hd (fun v => ?_) v
    unfold spreadE
    split
    · rename_i hu
      by_cases hv : v = e.v
      · subst hv
        rw [upz_same]
        have h1 := hf e (List.mem_cons_self ..) (by have := hd e.u; omega)
        have h2 := hd e.u
        have h3 := h e.v
        omega
      · rw [upz_other _ _ hv]; exact h v
    · exact h v
theorem spread_ge {es : List NE} {s f : Nat → Int} (hf : Feas es f) (hs : ∀ v, f v ≤ s v) : ∀ t v, f v ≤ spread es s t v
  | 0, v => hs v
  | t + 1, v => foldE_ge es _ hf (spread_ge hf hs t) (spread_ge hf hs t) v
theorem spread_le (es : List NE) (s : Nat → Int) : ∀ t v, spread es s t v ≤ s v
  | 0, v => Int.le_refl _
  | t + 1, v => Int.le_trans (spread1_le es _ v) (spread_le es s t v)
theorem att_start (es : List NE) (s : Nat → Int) : Att es s s := fun v => ⟨Int.le_refl _, fun h => At.base v h⟩
/-- costs that no edge undercuts, each the cost of a walk, are what the rounds come to -/
theorem spread_fix {es : List NE} {s f : Nat → Int} {n : Nat} (hn : 1 ≤ n) (hes : ∀ e ∈ es, e.u < n ∧ e.v < n) (hs : ∀ v, s v ≤ FAR) (hf : Feas es f) (ha : Att es s f) (t : Nat) (ht : n ≤ t + 1) (v : Nat) (hv : v < n) : spread es s t v = f v := by
  have hfs : ∀ v, f v ≤ s v := fun v => (ha v).1
  have lo := spread_ge hf hfs
  have top : ∀ t v, f v = FAR → spread es s t v = f v := by
    intro t v h
    have h1 := lo t v
    have h2 := spread_le es s t v
    have h3 := hs v
    omega
  have tight : ∀ t, (∀ u, u < n → spread es s (t + 1) u = f u → spread es s t u = f u) → ∀ v x, At es s v x → v < n → x = f v → spread es s t v = f v := by
    intro t hst v x h
    induction h with
    | base v h =>
      intro hv hx
      have h1 := lo t v
      have h2 := spread_le es s t v
      omega
    | step e x he h hx hy ih =>
      intro hv hxe
      have h1 := at_ge hf hfs h
      have h2 := hf e he (by omega)
      have h3 : x = f e.u := by omega
      have h4 := ih (hes e he).1 h3
      have h5 := spread1_edge es (spread es s t) e he (by omega)
      have h6 := lo (t + 1) e.v
      refine hst e.v hv ?_
      have h7 : spread es s (t + 1) e.v ≤ spread es s t e.u + e.c := h5
      omega
  have all : ∀ t, (∀ u, u < n → spread es s (t + 1) u = f u → spread es s t u = f u) → ∀ v, v < n → spread es s t v = f v := by
    intro t hst v hv
    by_cases hF : f v < FAR
    · exact tight t hst v _ ((ha v).2 hF) hv rfl
    · have h1 := hs v
      have h2 := hfs v
      exact top t v (by omega)
  have some0 : ∀ v x, At es s v x → v < n → x = f v → ∃ v0, v0 < n ∧ s v0 = f v0 := by
    intro v x h
    induction h with
    | base v h => intro hv hx; exact ⟨v, hv, hx⟩
    | step e x he h hx hy ih =>
      intro hv hxe
      have h1 := at_ge hf hfs h
      have h2 := hf e he (by omega)
      exact ih (hes e he).1 (by omega)
  have g := grow (n := n) (fun t u => decide (spread es s t u = f u)) (fun t u _ h => by
      have h0 : spread es s t u = f u := by simpa using h
      have h1 := lo (t + 1) u
      have h2 : spread es s (t + 1) u ≤ spread es s t u := spread1_le es _ u
      simp
      omega)
    (fun t hst u hu _ => by
      have h0 := all t (fun u hu h => by simpa using hst u hu (by simpa using h)) u hu
      have h1 := lo (t + 1) u
      have h2 : spread es s (t + 1) u ≤ spread es s t u := spread1_le es _ u
      simp
      omega)
    (by
      by_cases hF : f 0 < FAR
      · obtain ⟨v0, h1, h2⟩ := some0 0 _ ((ha 0).2 hF) (by omega) rfl
        exact ⟨v0, h1, decide_eq_true h2⟩
      · have h1 := hs 0
        have h2 := hfs 0
        exact ⟨0, by omega, decide_eq_true (show s 0 = f 0 by omega)⟩)
    t ht
  exact all t (fun u hu h => by simpa using g u hu (by simpa using h)) v hv

/-! in place -/
end Go.Proofs.Ytccailcjclbhlaa

/-! Lists that read as functions of the place. No program here. -/
namespace Go.Proofs.Ytccailcjclbhlaa
open Go.RowKit

def LI (n : Nat) (f : Nat → Int) : List Int := (List.range n).map f
theorem li_len (n : Nat) (f : Nat → Int) : (LI n f).length = n := by simp [LI]
theorem li_get (n : Nat) (f : Nat → Int) (i : Nat) (h : i < (LI n f).length) : (LI n f)[i] = f i := by simp [LI]
theorem li_succ (k : Nat) (f : Nat → Int) : LI (k + 1) f = LI k f ++ [f k] := by simp [LI, List.range_succ]
theorem li_set (n : Nat) (f : Nat → Int) (i : Nat) (x : Int) : (LI n f).set i x = LI n (upz f i x) := by
  apply List.ext_getElem
  · simp [LI]
  · intro j h1 h2
    rw [li_get, List.getElem_set]
    by_cases e : i = j
    · subst e; simp [upz]
    · rw [if_neg e, li_get, upz_other _ _ (fun h => e h.symm)]
theorem li_rep (n : Nat) (x : Int) : List.replicate n x = LI n (fun _ => x) := by
  apply List.ext_getElem
  · simp [LI]
  · intro i h1 h2; simp [LI]
theorem li_congr {n : Nat} {f g : Nat → Int} (h : ∀ v, v < n → f v = g v) : LI n f = LI n g := by
  unfold LI
  apply List.map_congr_left
  intro v hv
  exact h v (List.mem_range.1 hv)
/-- the first k written anew -/
def first {α : Type} (k : Nat) (f g : Nat → α) : Nat → α := fun v => if v < k then f v else g v
theorem first_zero {α : Type} (f g : Nat → α) : first 0 f g = g := by funext v; simp [first]
theorem first_step {α : Type} (k : Nat) (f g : Nat → α) : upz (first k f g) k (f k) = first (k + 1) f g := by
  funext v
  simp only [upz, first]
  by_cases h : v = k
  · subst h; simp
  · by_cases h2 : v < k
    · rw [if_neg h, if_pos h2, if_pos (by omega)]
    · rw [if_neg h, if_neg h2, if_neg (by omega)]
theorem first_all (n : Nat) (f g : Nat → Int) : LI n (first n f g) = LI n f := li_congr (fun v hv => by simp [first, hv])

theorem Own.atI {e : TypeId} {w : World} {base g n c : Nat} {f : Nat → Int} (h : Own encI 1 e w base (.slice (some ⟨g, 0, none⟩) n c) (LI n f)) (i : Nat) (hi : i < n) : w.cell? ⟨g, i, none⟩ = some (.int .i64 (f i)) := by
  have := h.getI i (by rw [li_len]; exact hi)
  rw [li_get] at this
  exact this
theorem Own.setI {e : TypeId} {w : World} {base g n c : Nat} {f : Nat → Int} (h : Own encI 1 e w base (.slice (some ⟨g, 0, none⟩) n c) (LI n f)) (i : Nat) (hi : i < n) (x : Int) : Own encI 1 e (w.setCell ⟨g, i, none⟩ (.int .i64 x)) base (.slice (some ⟨g, 0, none⟩) n c) (LI n (upz f i x)) := by
  have := h.putI i (by rw [li_len]; exact hi) x
  rw [li_set] at this
  exact this
theorem Row.atI {w : World} {B : Nat} {a : Option Addr} {n : Nat} {f : Nat → Int} (h : Row encI 1 w B a (LI n f)) (i : Nat) (hi : i < n) : ∃ b o, a = some ⟨b, o, none⟩ ∧ b < B ∧ w.cell? ⟨b, o + i, none⟩ = some (.int .i64 (f i)) := by
  obtain ⟨b, o, h1, h2, h3⟩ := h.int i (by rw [li_len]; exact hi)
  rw [li_get] at h3
  exact ⟨b, o, h1, h2, h3⟩
/-- an own slice with at least one element stands in a block -/
theorem Own.blockI {α : Type} {enc : α → List Value} {sz : Nat} {e : TypeId} {w : World} {base : Nat} {a : Option Addr} {n c : Nat} {xs : List α} (h : Own enc sz e w base (.slice a n c) xs) (hn : 0 < n) : ∃ g, a = some ⟨g, 0, none⟩ ∧ base ≤ g ∧ g < w.heap.size := by
  rcases h.form with ⟨h1, h2⟩ | ⟨g, cap, h1, h2, h3, _⟩
  · simp only [Value.slice.injEq] at h1; omega
  · simp only [Value.slice.injEq] at h1; exact ⟨g, h1.1, h2, h3⟩

/-- a right net's edges, by places -/
def nes (es : List Ed) : List NE := es.map fun e => ⟨e.u.toNat, e.v.toNat, e.c⟩
theorem nes_take (es : List Ed) (k : Nat) (h : k < es.length) : nes (es.take (k + 1)) = nes (es.take k) ++ [⟨es[k].u.toNat, es[k].v.toNat, es[k].c⟩] := by
  unfold nes
  rw [List.take_succ_eq_append_getElem h, List.map_append]
  rfl
theorem nes_mem {es : List Ed} {e : NE} (h : e ∈ nes es) : ∃ x ∈ es, e = ⟨x.u.toNat, x.v.toNat, x.c⟩ := by
  obtain ⟨x, h1, h2⟩ := List.mem_map.1 h
  exact ⟨x, h1, h2.symm⟩
def RightK (K : Int) (n : Nat) (es : List Ed) : Prop := ∀ e ∈ es, 0 ≤ e.u ∧ e.u < n ∧ 0 ≤ e.v ∧ e.v < n ∧ -K ≤ e.c ∧ e.c ≤ K
def Right (n : Nat) (es : List Ed) : Prop := RightK 10000 n es
theorem nes_rightK {K : Int} {n : Nat} {es : List Ed} (h : RightK K n es) : ∀ e ∈ nes es, e.u < n ∧ e.v < n := by
  intro e he
  obtain ⟨x, hx, rfl⟩ := nes_mem he
  have := h x hx
  simp only
  omega
/-- an edge of a right net, by places -/
theorem right_edgeK {K : Int} {n : Nat} {es : List Ed} (h : RightK K n es) (k : Nat) (hk : k < es.length) : ∃ u v : Nat, es[k].u = (u : Int) ∧ es[k].v = (v : Int) ∧ u < n ∧ v < n ∧ -K ≤ es[k].c ∧ es[k].c ≤ K ∧ nes (es.take (k + 1)) = nes (es.take k) ++ [⟨u, v, es[k].c⟩] := by
  have h1 := h es[k] (List.getElem_mem hk)
  obtain ⟨u, hu⟩ := Int.eq_ofNat_of_zero_le h1.1
  obtain ⟨v, hv⟩ := Int.eq_ofNat_of_zero_le h1.2.2.1
  refine ⟨u, v, hu, hv, by omega, by omega, by omega, by omega, ?_⟩
  rw [nes_take es k hk, hu, hv]
  rfl
theorem right_edge {n : Nat} {es : List Ed} (h : Right n es) (k : Nat) (hk : k < es.length) : ∃ u v : Nat, es[k].u = (u : Int) ∧ es[k].v = (v : Int) ∧ u < n ∧ v < n ∧ -10000 ≤ es[k].c ∧ es[k].c ≤ 10000 ∧ nes (es.take (k + 1)) = nes (es.take k) ++ [⟨u, v, es[k].c⟩] := right_edgeK h k hk
end Go.Proofs.Ytccailcjclbhlaa

/-! From all to all, place by place between (Warshall): what it comes to; and what a growing set of places comes to. No program here. -/
namespace Go.Proofs.Ytccailcjclbhlaa
set_option linter.unusedVariables false

section
variable {α : Type}
end

/-! booleans: is there a walk over edges that are so? -/
inductive Lead (es : List NE) (is : NE → Bool) (a : Nat) : Nat → Prop
  | refl : Lead es is a a
  | step (e : NE) (h : Lead es is a e.u) (he : e ∈ es) (hi : is e = true) : Lead es is a e.v
/-! a set that grows, round by round, edge by edge in place -/
def only (v : Nat) : Nat → Bool := fun u => decide (u = v)
end Go.Proofs.Ytccailcjclbhlaa

/-! Square tables that a call makes itself, row by row: one place stored, one row made. Conditions: places in bounds. -/
namespace Go.Proofs.Ytccailcjclbhlaa
open Go.RowKit

theorem Own.blockI' {α : Type} {enc : α → List Value} {sz : Nat} {e : TypeId} {w : World} {base : Nat} {a : Option Addr} {n c : Nat} {xs : List α} (h : Own enc sz e w base (.slice a n c) xs) (hn : 0 < n) : ∃ g, a = some ⟨g, 0, none⟩ ∧ base ≤ g ∧ g < w.heap.size := by
  rcases h.form with ⟨h1, h2⟩ | ⟨g, cap, h1, h2, h3, _⟩
  · simp only [Value.slice.injEq] at h1; omega
  · simp only [Value.slice.injEq] at h1; exact ⟨g, h1.1, h2, h3⟩
section
variable {α : Type}
def RW (n : Nat) (f : Nat → α) : List α := (List.range n).map f
theorem rw_len (n : Nat) (f : Nat → α) : (RW n f).length = n := by simp [RW]
theorem rw_get (n : Nat) (f : Nat → α) (i : Nat) (h : i < (RW n f).length) : (RW n f)[i] = f i := by simp [RW]
theorem rw_set (n : Nat) (f : Nat → α) (i : Nat) (x : α) : (RW n f).set i x = RW n (upz f i x) := by
  apply List.ext_getElem
  · simp [RW]
  · intro j h1 h2
    rw [rw_get, List.getElem_set]
    by_cases e : i = j
    · subst e; simp [upz]
    · rw [if_neg e, rw_get, upz_other _ _ (fun h => e h.symm)]
end

end Go.Proofs.Ytccailcjclbhlaa
