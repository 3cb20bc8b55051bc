/-
  A list of rows that grows by one row at a time, each row a slice of its own. Conditions: bounds on lengths.
-/
import Derived.Test.YtcehdpeeaogpiaaBase
import Derived.Test.YtcehdpeeaogpiaaPlainB
import Derived.Deep.AppendLies
namespace Go.Proofs.Ytcehdpeeaogpiaa
open Go.RowKit

/-- append of one element to a slice of the call's own; where the new slice lies -/
theorem wpList_pushL {α : Type} {enc : α → List Value} {sz : Nat} {e : TypeId} {w : World} {base : Nat} {v : Value} {xs : List α} {P : Program} {ops : Array Oper} {rest : List Oper} {o : Oper} {a : Act} {Q : Exit → Act → World → Prop} (hgd : o.guard = none) (s x : Operand) (t : TypeId)
    (ho : o.op = .call { callee := .builtin .append, args := #[s, x], argTypes := #[t, t] })
    (z : Value) (bytes : Nat) (ht : P.underlying t = some (.slice e)) (hinf : (P.info? e).map (fun i => (i.zero, i.size, i.bytes)) = some (some z, sz, bytes)) (hzs : z.cells.size = sz) (hsz : 0 < sz)
    (hlen : ∀ x, (enc x).length = sz) (hone : ∀ x, ∀ u ∈ enc x, u.oneCell' = true)
    (n : Nat) (hn : xs.length = n) (hs : a.eval s = v) (own : Own enc sz e w base v xs) (ad : Addr) (c : Nat) (y : α) (hx : a.eval x = .slice (some ad) 1 c)
    (hcells : ∀ j u, (enc y)[j]? = some u → w.cell? (ad.add j) = some u) (hbound : (n + 1) * bytes ≤ 140737488355328) (hmax : n + 1 ≤ maxLen) (hbase : base ≤ w.heap.size)
    (h : ∀ g c' w', Own enc sz e w' base (.slice (some ⟨g, 0, none⟩) (n + 1) c') (xs ++ [y]) → Below base w w' → w.grownBy w' v.ownBlock → (v.ownBlock = some g ∨ g = w.heap.size) → g < w'.heap.size → wpList P ops Q rest (a.put o.dst (.slice (some ⟨g, 0, none⟩) (n + 1) c')) w') : wpList P ops Q (o :: rest) a w := by
  subst hn
  obtain ⟨i0, hi, hz0, hz1, hz2⟩ := info_parts hinf
  refine wpList_append_lies w hgd s x t ho base e i0 z sz bytes ht hi hz0 hz1 hz2 hzs hsz v xs.length (xs.flatMap enc) hs own ad 1 c (enc y) hx (by rw [hlen, Nat.one_mul]) hcells (hone y) (by omega) hmax hbound hbase w.heap.size rfl ?_
  intro g cap w' own' hg hat hlt
  have own2 : Own enc sz e w' base (.slice (some ⟨g, 0, none⟩) (xs.length + 1) cap) (xs ++ [y]) := by
    unfold Own
    rw [List.length_append, List.flatMap_append]
    simpa using own'
  exact h g cap w' own2 ((Below.refl _ _).grown hg hbase (fun k hk => (own.block_lt k hk).1)) hg hat hlt
/-- a slice value: where it begins, its length, its room -/
structure S3 where
  a : Option Addr
  n : Nat
  c : Nat
def encS (s : S3) : List Value := [.slice s.a s.n s.c]
theorem lenS (s : S3) : (encS s).length = 1 := rfl
theorem oneS (s : S3) : ∀ u ∈ encS s, u.oneCell' = true := by intro u hu; simp [encS] at hu; subst hu; rfl
theorem newS (w : World) (t : TypeId) (x : S3) (g : Nat) (hg : g = w.heap.size) : ∀ j u, (encS x)[j]? = some u → (w.alloc (.cells #[.slice x.a x.n x.c] t)).cell? ((⟨g, 0, none⟩ : Addr).add j) = some u := by
  intro j u hj; subst hg
  match j, hj with
  | 0, hj => simp [encS] at hj; subst hj; simp [Addr.add]

/-- the rows, each n long: the list is the call's own, no row lies in the list's block -/
def ROut (eo : TypeId) (w : World) (base : Nat) (v : Value) (n : Nat) (ts : List S3) (rows : List (List Int)) : Prop :=
  ts.length = rows.length ∧ Own encS 1 eo w base v ts ∧ ∀ i (h : i < rows.length), ∃ bi ci, ts[i]? = some ⟨some ⟨bi, 0, none⟩, n, ci⟩ ∧ Row encI 1 w w.heap.size (some ⟨bi, 0, none⟩) rows[i] ∧ v.ownBlock ≠ some bi ∧ bi < w.heap.size
theorem ROut.nil (eo : TypeId) (w : World) (base n : Nat) : ROut eo w base (.slice none 0 0) n [] [] := ⟨rfl, Own.nil _ _, fun i h => by cases h⟩
theorem ROut.stays {eo : TypeId} {w w' : World} {base n : Nat} {v : Value} {ts : List S3} {rows : List (List Int)} (h : ROut eo w base v n ts rows) (hb : Below w.heap.size w w') : ROut eo w' base v n ts rows := by
  refine ⟨h.1, h.2.1.stays hb, fun i hi => ?_⟩
  obtain ⟨bi, ci, h1, h2, h3, h4⟩ := h.2.2 i hi
  exact ⟨bi, ci, h1, (h2.below hb (Nat.le_refl _)).mono hb.size, h3, Nat.lt_of_lt_of_le h4 hb.size⟩
/-- behind the append of one more row -/
theorem ROut.push {eo : TypeId} {w w' : World} {base n : Nat} {v v' : Value} {ts : List S3} {rows : List (List Int)} (h : ROut eo w base v n ts rows) {bi ci : Nat} {r : List Int} (hr : Row encI 1 w w.heap.size (some ⟨bi, 0, none⟩) r) (hne : v.ownBlock ≠ some bi) (hlt : bi < w.heap.size) {o : Obj}
    (own : Own encS 1 eo w' base v' (ts ++ [⟨some ⟨bi, 0, none⟩, n, ci⟩])) (hg : (w.alloc o).grownBy w' v.ownBlock) (hat : ∀ k, v'.ownBlock = some k → v.ownBlock = some k ∨ w.heap.size ≤ k) : ROut eo w' base v' n (ts ++ [⟨some ⟨bi, 0, none⟩, n, ci⟩]) (rows ++ [r]) := by
  have hsz : w.heap.size + 1 ≤ w'.heap.size := by have := hg.size; simpa using this
  have keep : ∀ (b : Nat) (xs : List Int), b < w.heap.size → v.ownBlock ≠ some b → Row encI 1 w w.heap.size (some ⟨b, 0, none⟩) xs → Row encI 1 w' w'.heap.size (some ⟨b, 0, none⟩) xs := by
    intro b xs hb hvb hx i hi
    obtain ⟨b', o', e1, e2, e3⟩ := hx i hi
    refine ⟨b', o', e1, by omega, fun j u hu => ?_⟩
    simp only [Option.some.injEq, Addr.mk.injEq] at e1
    obtain ⟨rfl, rfl, _⟩ := e1
    exact hg.cell (cu_alloc (e3 j u hu)) (fun e => hvb e.symm)
  refine ⟨by simp [h.1], own, fun i hi => ?_⟩
  have away : ∀ b, b < w.heap.size → v.ownBlock ≠ some b → v'.ownBlock ≠ some b := by
    intro b hb hv e
    rcases hat b e with e2 | e2
    · exact hv e2
    · omega
  rcases Nat.lt_or_ge i rows.length with hlt2 | hge
  · obtain ⟨b, c, h1, h2, h3, h4⟩ := h.2.2 i hlt2
    refine ⟨b, c, ?_, ?_, away b h4 h3, by omega⟩
    · rw [List.getElem?_append_left (by rw [h.1]; exact hlt2)]; exact h1
    · rw [List.getElem_append_left hlt2]; exact keep b _ h4 h3 h2
  · have : i = rows.length := by simp at hi; omega
    subst this
    refine ⟨bi, ci, ?_, ?_, away bi hlt hne, by omega⟩
    · rw [List.getElem?_append_right (by rw [h.1]; exact Nat.le_refl _), h.1]; simp
    · rw [List.getElem_append_right (Nat.le_refl _)]
      simp only [Nat.sub_self, List.getElem_cons_zero]
      exact keep bi r hlt hne hr
/-- read -/
theorem ROut.read {eo : TypeId} {w : World} {base n : Nat} {a : Option Addr} {k c : Nat} {ts : List S3} {rows : List (List Int)} (h : ROut eo w base (.slice a k c) n ts rows) (i : Nat) (hi : i < rows.length) : ∃ b o ai ci, a = some ⟨b, o, none⟩ ∧ b < w.heap.size ∧ w.cell? ⟨b, o + i, none⟩ = some (.slice ai n ci) ∧ Row encI 1 w w.heap.size ai rows[i] := by
  obtain ⟨bi, ci, h1, h2, _⟩ := h.2.2 i hi
  obtain ⟨a', c', hv, hr, _⟩ := h.2.1.row lenS
  simp only [Value.slice.injEq] at hv
  obtain ⟨rfl, _⟩ := hv
  have hi' : i < ts.length := by rw [h.1]; exact hi
  obtain ⟨b, o, e1, e2, e3⟩ := hr i hi'
  rw [List.getElem?_eq_getElem hi'] at h1
  refine ⟨b, o, some ⟨bi, 0, none⟩, ci, e1, e2, ?_, h2⟩
  have := e3 0 (.slice (some ⟨bi, 0, none⟩) n ci) (by rw [Option.some.inj h1]; rfl)
  simpa using this
/-- a table that reads row by row -/
def Tab (w : World) (B : Nat) (a : Option Addr) (n : Nat) (rows : List (List Int)) : Prop := ∀ i (h : i < rows.length), ∃ b o ai ci, a = some ⟨b, o, none⟩ ∧ b < B ∧ w.cell? ⟨b, o + i, none⟩ = some (.slice ai n ci) ∧ Row encI 1 w B ai rows[i]
theorem ROut.tab {eo : TypeId} {w : World} {base n : Nat} {a : Option Addr} {k c : Nat} {ts : List S3} {rows : List (List Int)} (h : ROut eo w base (.slice a k c) n ts rows) : Tab w w.heap.size a n rows := fun i hi => h.read i hi
theorem Tab.below {w w' : World} {B C : Nat} {a : Option Addr} {n : Nat} {rows : List (List Int)} (h : Tab w B a n rows) (hb : Below C w w') (hB : B ≤ C) : Tab w' B a n rows := by
  intro i hi
  obtain ⟨b, o, ai, ci, h1, h2, h3, h4⟩ := h i hi
  exact ⟨b, o, ai, ci, h1, h2, by rw [hb.cell (by simp; omega)]; exact h3, h4.below hb hB⟩
end Go.Proofs.Ytcehdpeeaogpiaa
