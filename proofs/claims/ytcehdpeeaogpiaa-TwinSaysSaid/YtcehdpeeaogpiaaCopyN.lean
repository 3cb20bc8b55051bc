/-
  copy between slices whose elements have any number of cells, the target a known block. Conditions: it fits. No program.
-/
import Derived.Test.YtcehdpeeaogpiaaBase
import Derived.Laws.CopyRow
import Derived.Laws.CopyOwn
import Derived.Laws.OwnMore
namespace Go.Proofs.Ytcehdpeeaogpiaa
open Go.RowKit
set_option linter.unusedSimpArgs false
set_option linter.unusedVariables false

theorem run_copy_rowN {P : Program} (w : World) (dT sT ty elem : TypeId) (sz : Nat) (g o dLen dCap : Nat) (a : Addr) (sLen sCap k : Nat) (cur : List Value) (t : TypeId) (cs : List Value)
    (hu : P.underlying dT = some (.slice elem)) (hs : (P.info? elem).map (·.size) = some sz)
    (hg : w.heap[g]? = some (.cells cur.toArray t (0, 0))) (hk : Nat.min sLen dLen = k) (hn : cs.length = k * sz)
    (hsrc : ∀ j v, cs[j]? = some v → w.cell? (a.add j) = some v) (hfit : o + cs.length ≤ cur.length) (h1 : ∀ v ∈ cs, v.oneCell' = true) :
    (Builtin.copy_ #[dT, sT] ty #[.slice (some ⟨g, o, none⟩) dLen dCap, .slice (some a) sLen sCap]).run P w =
      .ok (goInt k) (w.setRow g (splice cur o cs).toArray) := by
  have hl := run_loadCells_list (P := P) w a cs hsrc
  have hst := run_storeCells_at P g o t cs 0 cur.toArray w hg (by simpa using hfit) h1
  cases hq : P.info? elem with
  | none => simp [hq] at hs
  | some i =>
    have hi : i.size = sz := by simpa [hq] using hs
    simp [Builtin.copy_, run_underlying hu, Builtin.lenOf, Builtin.firstCells, sizeOf, typeInfo, hq, hi, hk, ← hn, hl, hst, splice]
theorem Keep.setRow {g : Nat} (w : World) (X : Array Value) : Keep (fun k => k = g) w (w.setRow g X) :=
  ⟨rfl, rfl, rfl, by simp [World.setRow], fun k _ hk => setRow_other w g k X hk⟩

section
variable {P : Program} {w : World} {ops : Array Oper} {rest : List Oper} {o : Oper} {a : Act} {K : Act → World → Prop} {Q : Exit → Act → World → Prop} {E : Prop}
theorem wp_copy_K (d s : Operand) (dT sT : TypeId) (ho : o.op = .call { callee := .builtin .copy, args := #[d, s], argTypes := #[dT, sT] }) (elem : TypeId) (sz : Nat) (hu : P.underlying dT = some (.slice elem)) (hsz : (P.info? elem).map (·.size) = some sz)
    (g off dLen dCap : Nat) (ad : Addr) (sLen sCap k : Nat) (hd : a.eval d = .slice (some ⟨g, off, none⟩) dLen dCap) (hs : a.eval s = .slice (some ad) sLen sCap) (hk : Nat.min sLen dLen = k)
    (cur : List Value) (t : TypeId) (hg : w.heap[g]? = some (.cells cur.toArray t (0, 0))) (cs : List Value) (hn : cs.length = k * sz)
    (hsrc : ∀ j v, cs[j]? = some v → w.cell? (ad.add j) = some v) (hfit : off + cs.length ≤ cur.length) (h1 : ∀ v ∈ cs, v.oneCell' = true)
    (h : ∀ w', Hid (w'.heap[g]? = some (.cells (splice cur off cs).toArray t (0, 0))) → Keep (fun k => k = g) w w' → K (a.put o.dst (goInt k)) w') : o.wp P a w K Q := by
  have hrun := run_copy_rowN (P := P) w dT sT o.type elem sz g off dLen dCap ad sLen sCap k cur t cs hu hsz hg hk hn hsrc hfit h1
  unfold Oper.wp execOp
  simp only [ho, resolve, invoke, builtin, Sem.run_bind, Sem.run_pure, Result.andThen_ok, List.map_toArray, List.map_cons, List.map_nil, hd, hs, hrun]
  exact h _ (setRow_heap w g _ _ t _ hg) (Keep.setRow _ _)
theorem wpList_copy_K (hgd : o.guard = none) (d s : Operand) (dT sT : TypeId) (ho : o.op = .call { callee := .builtin .copy, args := #[d, s], argTypes := #[dT, sT] }) (elem : TypeId) (sz : Nat) (hu : P.underlying dT = some (.slice elem)) (hsz : (P.info? elem).map (·.size) = some sz)
    (g off dLen dCap : Nat) (ad : Addr) (sLen sCap k : Nat) (hd : a.eval d = .slice (some ⟨g, off, none⟩) dLen dCap) (hs : a.eval s = .slice (some ad) sLen sCap) (hk : Nat.min sLen dLen = k)
    (cur : List Value) (t : TypeId) (hg : w.heap[g]? = some (.cells cur.toArray t (0, 0))) (cs : List Value) (hn : cs.length = k * sz)
    (hsrc : ∀ j v, cs[j]? = some v → w.cell? (ad.add j) = some v) (hfit : off + cs.length ≤ cur.length) (h1 : ∀ v ∈ cs, v.oneCell' = true)
    (h : ∀ w', Hid (w'.heap[g]? = some (.cells (splice cur off cs).toArray t (0, 0))) → Keep (fun k => k = g) w w' → wpList P ops Q rest (a.put o.dst (goInt k)) w') : wpList P ops Q (o :: rest) a w :=
  wpList_plain hgd fun _ hK => wp_copy_K d s dT sT ho elem sz hu hsz g off dLen dCap ad sLen sCap k hd hs hk cur t hg cs hn hsrc hfit h1 (fun w' h2 h3 => hK _ _ (h w' h2 h3))
theorem step_copy_K (hgd : o.guard = none) (d s : Operand) (dT sT : TypeId) (ho : o.op = .call { callee := .builtin .copy, args := #[d, s], argTypes := #[dT, sT] }) (elem : TypeId) (sz : Nat) (hu : P.underlying dT = some (.slice elem)) (hsz : (P.info? elem).map (·.size) = some sz)
    (g off dLen dCap : Nat) (ad : Addr) (sLen sCap k : Nat) (hd : a.eval d = .slice (some ⟨g, off, none⟩) dLen dCap) (hs : a.eval s = .slice (some ad) sLen sCap) (hk : Nat.min sLen dLen = k)
    (cur : List Value) (t : TypeId) (hg : w.heap[g]? = some (.cells cur.toArray t (0, 0))) (cs : List Value) (hn : cs.length = k * sz)
    (hsrc : ∀ j v, cs[j]? = some v → w.cell? (ad.add j) = some v) (hfit : off + cs.length ≤ cur.length) (h1 : ∀ v ∈ cs, v.oneCell' = true)
    (h : ∀ w', Hid (w'.heap[g]? = some (.cells (splice cur off cs).toArray t (0, 0))) → Keep (fun k => k = g) w w' → K (a.put o.dst (goInt k)) w') :
    if Region.wanted o (yielded ops a.tmps) = true then Oper.wp P o a w K Q else E := by
  have hw : Region.wanted o (yielded ops a.tmps) = true := by simp [Region.wanted, hgd]
  rw [if_pos hw]
  exact wp_copy_K d s dT sT ho elem sz hu hsz g off dLen dCap ad sLen sCap k hd hs hk cur t hg cs hn hsrc hfit h1 h
end
/-- a slice of the call's own, as a block -/
theorem Own.block {α : Type} {enc : α → List Value} {sz : Nat} {e : TypeId} {w : World} {base g n c : Nat} {xs : List α} (h : Own enc sz e w base (.slice (some ⟨g, 0, none⟩) n c) xs) :
    ∃ cur : List Value, base ≤ g ∧ xs.length = n ∧ w.heap[g]? = some (.cells cur.toArray e (0, 0)) ∧ n ≤ c ∧ c ≤ maxLen ∧ cur.length = c * sz ∧ cur.take (n * sz) = xs.flatMap enc := by
  have hl := h.len
  subst hl
  rcases h.2 with ⟨h1, _⟩ | ⟨g', cap, cur, h1, h2, h3, h4, h5, h6, h7⟩
  · cases h1
  · simp only [Value.slice.injEq, Option.some.injEq, Addr.mk.injEq] at h1
    obtain ⟨⟨rfl, _⟩, _, rfl⟩ := h1
    exact ⟨cur.toList, h2, rfl, by simpa using h3, h4, h5, by simpa using h6, h7⟩
theorem flat_len {α : Type} {enc : α → List Value} {sz : Nat} (hlen : ∀ x, (enc x).length = sz) (xs : List α) : (xs.flatMap enc).length = xs.length * sz := by
  induction xs with
  | nil => simp
  | cons x r ih => simp only [List.flatMap_cons, List.length_append, ih, hlen, List.length_cons, Nat.succ_mul]; omega
/-- the other way -/
theorem Own.ofBlock {α : Type} {enc : α → List Value} {sz : Nat} (hlen : ∀ x, (enc x).length = sz) {e : TypeId} {w : World} {base g n c : Nat} {xs : List α} {cur : List Value} (hb : base ≤ g) (hn : xs.length = n) (hg : w.heap[g]? = some (.cells cur.toArray e (0, 0))) (hc : n ≤ c) (hm : c ≤ maxLen) (hl : cur.length = c * sz) (ht : cur.take (n * sz) = xs.flatMap enc) :
    Own enc sz e w base (.slice (some ⟨g, 0, none⟩) n c) xs := by
  subst hn
  exact ⟨flat_len hlen xs, .inr ⟨g, c, cur.toArray, rfl, hb, hg, hc, hm, by simpa using hl, by simpa using ht⟩⟩
theorem flat_take {α : Type} {enc : α → List Value} {sz : Nat} (hlen : ∀ x, (enc x).length = sz) : ∀ (xs : List α) (i : Nat), (xs.take i).flatMap enc = (xs.flatMap enc).take (i * sz)
  | [], i => by simp
  | x :: r, 0 => by simp
  | x :: r, i + 1 => by
    simp only [List.take_succ_cons, List.flatMap_cons]
    rw [flat_take hlen r i, List.take_append, hlen, List.take_of_length_le (l := enc x) (by rw [hlen, Nat.succ_mul]; omega), show (i + 1) * sz - sz = i * sz by rw [Nat.succ_mul]; omega]
theorem flat_drop {α : Type} {enc : α → List Value} {sz : Nat} (hlen : ∀ x, (enc x).length = sz) : ∀ (xs : List α) (i : Nat), (xs.drop i).flatMap enc = (xs.flatMap enc).drop (i * sz)
  | [], i => by simp
  | x :: r, 0 => by simp
  | x :: r, i + 1 => by
    simp only [List.drop_succ_cons, List.flatMap_cons]
    rw [flat_drop hlen r i, List.drop_append, hlen, List.drop_of_length_le (l := enc x) (by rw [hlen, Nat.succ_mul]; omega), show (i + 1) * sz - sz = i * sz by rw [Nat.succ_mul]; omega, List.nil_append]
/-- cells put in between -/
theorem splice_two {X A B C : List Value} {i k : Nat} (h : X = A ++ B ++ C) (hA : A.length = i) (p : List Value) (hp : p.length = k) (hC : k ≤ C.length) :
    splice (splice X (i + k) B) i p = A ++ p ++ B ++ C.drop k := by
  subst h hA hp
  have e1 : splice (A ++ B ++ C) (A.length + p.length) B = (A ++ (B ++ C).take p.length) ++ B ++ C.drop p.length := by
    unfold splice
    have h1 : (A ++ B ++ C).take (A.length + p.length) = A ++ (B ++ C).take p.length := by
      rw [List.append_assoc, List.take_append, List.take_of_length_le (by omega), Nat.add_sub_cancel_left]
    have h2 : (A ++ B ++ C).drop (A.length + p.length + B.length) = C.drop p.length := by
      rw [show A.length + p.length + B.length = (A ++ B).length + p.length by simp; omega, ← List.drop_drop, List.drop_left]
    rw [h1, h2]; simp
  rw [e1]
  unfold splice
  have hm : ((B ++ C).take p.length).length = p.length := by simp; omega
  have h1 : (A ++ (B ++ C).take p.length ++ B ++ C.drop p.length).take A.length = A := by simp
  have h2 : (A ++ (B ++ C).take p.length ++ B ++ C.drop p.length).drop (A.length + p.length) = B ++ C.drop p.length := by
    rw [show A ++ (B ++ C).take p.length ++ B ++ C.drop p.length = (A ++ (B ++ C).take p.length) ++ (B ++ C.drop p.length) by simp]
    rw [show A.length + p.length = (A ++ (B ++ C).take p.length).length by rw [List.length_append, hm], List.drop_left]
  rw [h1, h2]; simp
end Go.Proofs.Ytcehdpeeaogpiaa
