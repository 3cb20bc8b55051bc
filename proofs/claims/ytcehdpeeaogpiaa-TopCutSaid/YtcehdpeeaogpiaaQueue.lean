/-
  A queue: a slice of numbers in a block that the call made, which does not begin at the block's start: read, shortened at its head, appended to. Conditions: bounds on lengths.
-/
import Derived.Test.YtcehdpeeaogpiaaPlainB
import Derived.Test.YtcehdpeeaogpiaaBase
import Derived.ArgAppend
namespace Go.Proofs.Ytcehdpeeaogpiaa
open Go.RowKit
set_option linter.unusedSimpArgs false
set_option linter.unusedVariables false
/-- the k numbers xs behind place off of block g, with room for cap -/
def QOwn (e : TypeId) (w : World) (base g off k cap : Nat) (xs : List Int) : Prop :=
  xs.length = k ∧ base ≤ g ∧ k ≤ cap ∧ cap ≤ maxLen ∧ ∃ cur, w.heap[g]? = some (.cells cur e (0, 0)) ∧ off + cap ≤ cur.size ∧ ∀ j (h : j < xs.length), cur[off + j]? = some (.int .i64 xs[j])
section
variable {e : TypeId} {w w' : World} {base g off k cap : Nat} {xs : List Int}
theorem flatI (xs : List Int) : xs.flatMap encI = xs.map fun x => .int .i64 x := by
  induction xs with
  | nil => rfl
  | cons x r ih => simp [encI, ih]
theorem QOwn.of_own {n c : Nat} (h : Own encI 1 e w base (.slice (some ⟨g, 0, none⟩) n c) xs) : QOwn e w base g 0 n c xs := by
  rcases h.2 with ⟨hv, _⟩ | ⟨g', cap', cur, hv, h1, h2, h3, h4, h5, h6⟩
  · cases hv
  · simp only [Value.slice.injEq, Option.some.injEq, Addr.mk.injEq] at hv
    obtain ⟨⟨rfl, _⟩, rfl, rfl⟩ := hv
    refine ⟨rfl, h1, h3, h4, cur, h2, by omega, fun j hj => ?_⟩
    rw [Nat.zero_add]
    have e1 : (xs.flatMap encI)[j]? = some (.int .i64 xs[j]) := by rw [flatI]; simp [hj]
    rw [← h6] at e1
    rw [List.getElem?_take] at e1
    split at e1
    · simpa using e1
    · cases e1
theorem QOwn.lt (h : QOwn e w base g off k cap xs) : g < w.heap.size := by
  obtain ⟨_, _, _, _, cur, h1, _⟩ := h
  exact (Array.getElem?_eq_some_iff.1 h1).1
theorem QOwn.at (h : QOwn e w base g off k cap xs) (j : Nat) (hj : j < xs.length) : w.cell? ⟨g, off + j, none⟩ = some (.int .i64 xs[j]) := by
  obtain ⟨_, _, _, _, cur, h1, _, h2⟩ := h
  have := h2 j hj
  simp [World.cell?, h1, this]
theorem QOwn.head {x : Int} {r : List Int} (h : QOwn e w base g off k cap (x :: r)) : w.cell? ⟨g, off, none⟩ = some (.int .i64 x) := by
  have := h.at 0 (by simp)
  simpa using this
theorem QOwn.tail {x : Int} {r : List Int} (h : QOwn e w base g off (k + 1) cap (x :: r)) : QOwn e w base g (off + 1) k (cap - 1) r := by
  obtain ⟨h1, h2, h3, h4, cur, h5, h6, h7⟩ := h
  refine ⟨by simpa using h1, h2, by omega, by omega, cur, h5, by omega, fun j hj => ?_⟩
  have := h7 (j + 1) (by simp; omega)
  rw [show off + 1 + j = off + (j + 1) by omega]
  simpa using this
theorem QOwn.block (h : QOwn e w base g off k cap xs) (hb : w'.heap[g]? = w.heap[g]?) : QOwn e w' base g off k cap xs := by
  obtain ⟨h1, h2, h3, h4, cur, h5, h6, h7⟩ := h
  exact ⟨h1, h2, h3, h4, cur, by rw [hb]; exact h5, h6, h7⟩
theorem QOwn.stays (h : QOwn e w base g off k cap xs) (hb : Below w.heap.size w w') : QOwn e w' base g off k cap xs := h.block (hb.block g h.lt)
theorem QOwn.drew (h : QOwn e w base g off k cap xs) : QOwn e w.drew base g off k cap xs := h
theorem QOwn.alloc (h : QOwn e w base g off k cap xs) (o : Obj) : QOwn e (w.alloc o) base g off k cap xs := h.stays ((Below.refl _ _).alloc (Nat.le_refl _) o)
theorem QOwn.setCell (h : QOwn e w base g off k cap xs) {p : Addr} (hp : p.block ≠ g) (u : Value) : QOwn e (w.setCell p u) base g off k cap xs := h.block (Below.heap_setCell _ _ _ _ (fun e => hp e.symm))
theorem QOwn.base_le (h : QOwn e w base g off k cap xs) {base' : Nat} (hb : base' ≤ base) : QOwn e w base' g off k cap xs := by
  obtain ⟨h1, h2, r⟩ := h
  exact ⟨h1, by omega, r⟩
theorem QOwn.keep {S : Nat → Prop} (h : QOwn e w base g off k cap xs) (kp : Keep S w w') (hs : ¬ S g) : QOwn e w' base g off k cap xs := h.block (kp.block g h.lt hs)
theorem grown_set (w : World) (g o : Nat) (u : Value) : w.grownBy (w.setCell ⟨g, o, none⟩ u) (some g) :=
  ⟨rfl, rfl, rfl, by simp, fun k hk hne => Below.heap_setCell _ _ _ _ (fun e => hne (by rw [e]))⟩
/-- append of one number -/
theorem wpList_qpush {P : Program} {ops : Array Oper} {rest : List Oper} {o : Oper} {a : Act} {Q : Exit → Act → World → Prop} (hgd : o.guard = none) (s x : Operand) (t : TypeId)
    (ho : o.op = .call { callee := .builtin .append, args := #[s, x], argTypes := #[t, t] })
    (z : Value) (bytes : Nat) (ht : P.underlying t = some (.slice e)) (hinf : (P.info? e).map (fun i => (i.zero, i.size, i.bytes)) = some (some z, 1, bytes)) (hzs : z.cells.size = 1)
    (hs : a.eval s = .slice (some ⟨g, off, none⟩) k cap) (own : QOwn e w base g off k cap xs) (ad : Addr) (c : Nat) (y : Int) (hx : a.eval x = .slice (some ad) 1 c)
    (hcell : w.cell? ad = some (.int .i64 y)) (hsp : ad.spot = none) (hbound : (k + 1) * bytes ≤ 140737488355328) (hmax : k + 1 ≤ maxLen) (hbase : base ≤ w.heap.size)
    (h : ∀ g' off' cap' w', QOwn e w' base g' off' (k + 1) cap' (xs ++ [y]) → w.grownBy w' (some g) → (g' = g ∨ w.heap.size ≤ g') → wpList P ops Q rest (a.put o.dst (.slice (some ⟨g', off', none⟩) (k + 1) cap')) w') : wpList P ops Q (o :: rest) a w := by
  obtain ⟨i0, hi, hz0, hz1, hz2⟩ := info_parts hinf
  have own0 := own
  obtain ⟨h1, h2, h3, h4, cur, h5, h6, h7⟩ := own
  subst h1
  have hcell2 : ∀ j u, ([Value.int .i64 y] : List Value)[j]? = some u → w.cell? (ad.add j) = some u := by
    intro j u hj
    match j, hj with
    | 0, hj =>
      simp at hj; subst hj
      obtain ⟨b, o, sp⟩ := ad
      simp only at hsp
      subst hsp
      rw [WideShapes.add_plain]
      simpa using hcell
  refine wpList_append_arg w hgd s x t ho e i0 z 1 bytes ht hi hz0 hz1 hz2 hzs (by decide) g off xs.length cap (xs.map fun x => .int .i64 x) hs (by simp) ?lo ad 1 c [.int .i64 y] hx (by simp) hcell2 (by intro u hu; simp at hu; subst hu; rfl) ?spare hmax hbound ?room ?grow
  case lo =>
    intro j u hj
    have hjl : j < xs.length := by
      have := (List.getElem?_eq_some_iff.1 hj).1
      simpa using this
    have := own0.at j hjl
    rw [this]
    simp [hjl] at hj
    rw [← hj]
  case spare =>
    intro hr j hj
    simp at hj
    subst hj
    have hlt : off + xs.length < cur.size := by omega
    refine ⟨?_, ?_⟩
    · simp [World.cell?, h5, hlt]
    · simp [World.frozen?, h5]
  case room =>
    intro hr
    have e1 : w.setCells g (off + xs.length * 1) [.int .i64 y] = w.setCell ⟨g, off + xs.length, none⟩ (.int .i64 y) := by rw [Nat.mul_one]; rfl
    rw [e1]
    refine h g off cap _ ⟨by simp, h2, by omega, h4, cur.set! (off + xs.length) (.int .i64 y), ?_, by simp; omega, ?_⟩ (grown_set w g _ _) (.inl rfl)
    · have hb := (Array.getElem?_eq_some_iff.1 h5)
      simp only [World.setCell, Array.getElem?_modify, if_true, h5, Option.map_some]
      rfl
    · intro j hj
      simp only [List.length_append, List.length_cons, List.length_nil] at hj
      by_cases hjl : j < xs.length
      · rw [List.getElem_append_left hjl]
        rw [← h7 j hjl]
        simp only [Array.set!_eq_setIfInBounds, Array.getElem?_setIfInBounds]
        rw [if_neg (by omega)]
      · obtain rfl : j = xs.length := by omega
        simp only [Array.set!_eq_setIfInBounds, Array.getElem?_setIfInBounds, if_true]
        rw [if_pos (by omega)]
        simp
  case grow =>
    intro hr v' w' hown hgr
    have hgr2 : w.grownBy w' (some g) := ⟨hgr.os, hgr.tape, hgr.output, hgr.size, fun k hk hne => hgr.block k hk (by simp)⟩
    have own2 : Own encI 1 e w' w.heap.size v' (xs ++ [y]) := by
      unfold Own
      rw [flatI, List.map_append]
      simpa using hown
    rcases own2.form with ⟨_, hh⟩ | ⟨g', cap', hv, k1, k2, k3, k4⟩
    · simp at hh
    subst hv
    have hq := QOwn.of_own own2
    rw [List.length_append] at hq
    rw [List.length_append]
    exact h g' 0 cap' w' (hq.base_le hbase) hgr2 (.inr k1)
end
end Go.Proofs.Ytcehdpeeaogpiaa
