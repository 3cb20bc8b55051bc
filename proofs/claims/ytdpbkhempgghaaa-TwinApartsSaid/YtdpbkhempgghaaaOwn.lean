/-
  Slices that a call makes itself: what they hold, how they grow by one element, how they are read. Conditions: bounds on lengths, as each theorem says.
-/
import Derived.Test.YtdpbkhempgghaaaLib2
namespace Go.Proofs.Ytdpbkhempgghaaa
open Go.RowKit

/-- the slice value v, of element type e, is the call's own (blocks from base on) and holds xs -/
def Own {α : Type} (enc : α → List Value) (sz : Nat) (e : TypeId) (w : World) (base : Nat) (v : Value) (xs : List α) : Prop :=
  w.ownsRow base e sz v xs.length (xs.flatMap enc)

section
variable {α : Type} {enc : α → List Value} {sz : Nat} {e : TypeId} {w : World} {base : Nat} {v : Value} {xs : List α}

theorem Own.nil (w : World) (base : Nat) : Own enc sz e w base (.slice none 0 0) [] := World.ownsRow_nil w base e sz
theorem Own.alloc (h : Own enc sz e w base v xs) (o : Obj) : Own enc sz e (w.alloc o) base v xs := World.ownsRow.alloc h o
theorem Own.drew (h : Own enc sz e w base v xs) : Own enc sz e w.drew base v xs := World.ownsRow.drew h
theorem Own.drewN (h : Own enc sz e w base v xs) (n : Nat) : Own enc sz e (w.drewN n) base v xs := h
theorem Own.setCell (h : Own enc sz e w base v xs) {a : Addr} (ha : a.block < base) (u : Value) : Own enc sz e (w.setCell a u) base v xs := ownsRow_setCell_below h ha u
theorem Own.base_le (h : Own enc sz e w base v xs) {base' : Nat} (hb : base' ≤ base) : Own enc sz e w base' v xs :=
  ⟨h.1, h.2.elim Or.inl (fun ⟨g, cap, cur, hv, hg, r⟩ => Or.inr ⟨g, cap, cur, hv, Nat.le_trans hb hg, r⟩)⟩
theorem Own.form (h : Own enc sz e w base v xs) : (v = .slice none 0 0 ∧ xs = []) ∨ ∃ g cap, v = .slice (some ⟨g, 0, none⟩) xs.length cap ∧ base ≤ g ∧ g < w.heap.size ∧ xs.length ≤ cap ∧ cap ≤ maxLen := by
  rcases h.2 with ⟨h1, h2⟩ | ⟨g, cap, cur, hv, hg, hh, h1, h2, _⟩
  · exact .inl ⟨h1, List.eq_nil_of_length_eq_zero h2⟩
  · exact .inr ⟨g, cap, hv, hg, (Array.getElem?_eq_some_iff.1 hh).1, h1, h2⟩
theorem Own.block_lt (h : Own enc sz e w base v xs) : ∀ k, v.ownBlock = some k → base ≤ k ∧ k < w.heap.size := by
  intro k hk
  rcases h.form with ⟨rfl, _⟩ | ⟨g, cap, rfl, h1, h2, _⟩
  · simp [Value.ownBlock] at hk
  · simp [Value.ownBlock] at hk; subst hk; exact ⟨h1, h2⟩
/-- it stays as it is where its own block is not written -/
theorem Own.below (h : Own enc sz e w base v xs) {w' : World} {C : Nat} (hb : Below C w w') (hC : w.heap.size ≤ C) : Own enc sz e w' base v xs := by
  refine ⟨h.1, ?_⟩
  rcases h.2 with hn | ⟨g, cap, cur, hv, hg, hh, r⟩
  · exact .inl hn
  · refine .inr ⟨g, cap, cur, hv, hg, ?_, r⟩
    rw [hb.block g (Nat.lt_of_lt_of_le (Array.getElem?_eq_some_iff.1 hh).1 hC)]
    exact hh
theorem Own.stays (h : Own enc sz e w base v xs) {w' : World} (hb : Below w.heap.size w w') : Own enc sz e w' base v xs := h.below hb (Nat.le_refl _)

theorem flat_get (hlen : ∀ x, (enc x).length = sz) : ∀ (xs : List α) (i : Nat) (hi : i < xs.length) (j : Nat) (u : Value), (enc xs[i])[j]? = some u → (xs.flatMap enc)[i * sz + j]? = some u
  | [], i, hi, _, _, _ => by simp at hi
  | x :: r, 0, _, j, u, h => by
    have hj := (List.getElem?_eq_some_iff.1 h).1
    simp only [List.flatMap_cons, Nat.zero_mul, Nat.zero_add]
    rw [List.getElem?_append_left (by simpa using hj)]
    simpa using h
  | x :: r, i + 1, hi, j, u, h => by
    simp only [List.flatMap_cons]
    rw [List.getElem?_append_right (by rw [hlen, Nat.succ_mul]; omega), hlen, show (i + 1) * sz + j - sz = i * sz + j by rw [Nat.succ_mul]; omega]
    exact flat_get hlen r i (by simpa using hi) j u (by simpa using h)

theorem Own.shape (h : Own enc sz e w base v xs) {n : Nat} (hn : xs.length = n) : ∃ a c, v = .slice a n c := by
  subst hn
  rcases h.form with ⟨rfl, rfl⟩ | ⟨g, cap, rfl, _⟩
  · exact ⟨_, _, rfl⟩
  · exact ⟨_, _, rfl⟩
/-- read it as a row -/
theorem Own.row (h : Own enc sz e w base v xs) (hlen : ∀ x, (enc x).length = sz) : ∃ a cap, v = .slice a xs.length cap ∧ Row enc sz w w.heap.size a xs ∧ xs.length ≤ cap ∧ cap ≤ maxLen := by
  rcases h.form with ⟨rfl, rfl⟩ | ⟨g, cap, rfl, h1, h2, h3, h4⟩
  · exact ⟨none, 0, rfl, Row.nil _ _ _ _ _, Nat.le_refl _, Nat.zero_le _⟩
  · refine ⟨some ⟨g, 0, none⟩, cap, rfl, ?_, h3, h4⟩
    intro i hi
    refine ⟨g, 0, rfl, h2, fun j u hu => ?_⟩
    have := World.ownsRow.cells h (g := g) rfl (i * sz + j) u (flat_get hlen xs i hi j u hu)
    rw [WideShapes.add_plain, Nat.zero_add] at this
    rw [Nat.zero_add]
    exact this

/-- append of one element to a slice of the call's own -/
theorem wpList_push {P : Program} {ops : Array Oper} {rest : List Oper} {o : Oper} {a : Act} {Q : Exit → Act → World → Prop} (hgd : o.guard = none) (s x : Operand) (t : TypeId)
    (ho : o.op = .call { callee := .builtin .append, args := #[s, x], argTypes := #[t, t] })
    (z : Value) (bytes : Nat) (ht : P.underlying t = some (.slice e)) (hinf : (P.info? e).map (fun i => (i.zero, i.size, i.bytes)) = some (some z, sz, bytes)) (hzs : z.cells.size = sz) (hsz : 0 < sz)
    (hlen : ∀ x, (enc x).length = sz) (hone : ∀ x, ∀ u ∈ enc x, u.oneCell' = true)
    (n : Nat) (hn : xs.length = n) (hs : a.eval s = v) (own : Own enc sz e w base v xs) (ad : Addr) (c : Nat) (y : α) (hx : a.eval x = .slice (some ad) 1 c)
    (hcells : ∀ j u, (enc y)[j]? = some u → w.cell? (ad.add j) = some u) (hbound : (n + 1) * bytes ≤ 140737488355328) (hmax : n + 1 ≤ maxLen) (hbase : base ≤ w.heap.size)
    (h : ∀ g c' w', Own enc sz e w' base (.slice (some ⟨g, 0, none⟩) (n + 1) c') (xs ++ [y]) → Below base w w' → w.grownBy w' v.ownBlock → base ≤ g → g < w'.heap.size → wpList P ops Q rest (a.put o.dst (.slice (some ⟨g, 0, none⟩) (n + 1) c')) w') : wpList P ops Q (o :: rest) a w := by
  subst hn
  obtain ⟨i0, hi, hz0, hz1, hz2⟩ := info_parts hinf
  refine wpList_append_own w hgd s x t ho base e i0 z sz bytes ht hi hz0 hz1 hz2 hzs hsz v xs.length (xs.flatMap enc) hs own ad 1 c (enc y) hx (by rw [hlen, Nat.one_mul]) hcells (hone y) hmax hbound hbase ?_
  intro v' w' own' hg _
  have own2 : Own enc sz e w' base v' (xs ++ [y]) := by
    unfold Own
    rw [List.length_append, List.flatMap_append]
    simpa using own'
  rcases own2.form with ⟨_, hh⟩ | ⟨g, cap, hv, h1, h2, _⟩
  · simp at hh
  rw [List.length_append, List.length_singleton] at hv
  subst hv
  refine h g cap w' own2 ?_ hg h1 h2
  · exact (Below.refl _ _).grown hg hbase (fun k hk => (own.block_lt k hk).1)
end

theorem unalloc {B : Nat} {w w' : World} {o : Obj} (h : Below B (w.alloc o) w') (hB : B ≤ w.heap.size) : Below B w w' := ((Below.refl B w).alloc hB o).trans h
theorem bcellB {B : Nat} {W w1 : World} (hb : Below B W w1) : (∀ b o, b < B → w1.cell? ⟨b, o, none⟩ = W.cell? ⟨b, o, none⟩) ∧ (∀ b o, b < B → w1.frozen? ⟨b, o, none⟩ = W.frozen? ⟨b, o, none⟩) :=
  ⟨fun b o h => hb.cell (p := ⟨b, o, none⟩) h, fun b o h => hb.frozen (p := ⟨b, o, none⟩) h⟩
theorem lenI (x : Int) : (encI x).length = 1 := rfl
theorem lenB (x : Bool) : (encB x).length = 1 := rfl
theorem lenE (x : Ed) : (encE x).length = 3 := rfl
theorem lenP (x : P2) : (encP x).length = 2 := rfl
theorem lenV (x : Value) : (encV x).length = 1 := rfl
theorem oneI (x : Int) : ∀ u ∈ encI x, u.oneCell' = true := by intro u hu; simp [encI] at hu; subst hu; rfl
theorem oneB (x : Bool) : ∀ u ∈ encB x, u.oneCell' = true := by intro u hu; simp [encB] at hu; subst hu; rfl
theorem oneE (x : Ed) : ∀ u ∈ encE x, u.oneCell' = true := by intro u hu; simp [encE] at hu; rcases hu with rfl | rfl | rfl <;> rfl
theorem oneP (x : P2) : ∀ u ∈ encP x, u.oneCell' = true := by intro u hu; simp [encP] at hu; rcases hu with rfl | rfl <;> rfl

/-- the one element that an append takes, laid in a new block -/
theorem newI (w : World) (t : TypeId) (x : Int) (g : Nat) (hg : g = w.heap.size) : ∀ j u, (encI x)[j]? = some u → (w.alloc (.cells #[.int .i64 x] t)).cell? ((⟨g, 0, none⟩ : Addr).add j) = some u := by
  intro j u hj; subst hg
  match j, hj with
  | 0, hj => simp [encI] at hj; subst hj; simp [Addr.add]
theorem newE (w : World) (t : TypeId) (x : Ed) (g : Nat) (hg : g = w.heap.size) : ∀ j u, (encE x)[j]? = some u → (w.alloc (.cells #[.int .i64 x.u, .int .i64 x.v, .int .i64 x.c] t)).cell? ((⟨g, 0, none⟩ : Addr).add j) = some u := by
  intro j u hj; subst hg
  match j, hj with
  | 0, hj => simp [encE] at hj; subst hj; simp [Addr.add]
  | 1, hj => simp [encE] at hj; subst hj; simp [WideShapes.add_plain]
  | 2, hj => simp [encE] at hj; subst hj; simp [WideShapes.add_plain]
theorem newP (w : World) (t : TypeId) (x : P2) (g : Nat) (hg : g = w.heap.size) : ∀ j u, (encP x)[j]? = some u → (w.alloc (.cells #[.int .i64 x.a, .int .i64 x.b] t)).cell? ((⟨g, 0, none⟩ : Addr).add j) = some u := by
  intro j u hj; subst hg
  match j, hj with
  | 0, hj => simp [encP] at hj; subst hj; simp [Addr.add]
  | 1, hj => simp [encP] at hj; subst hj; simp [WideShapes.add_plain]

end Go.Proofs.Ytdpbkhempgghaaa
