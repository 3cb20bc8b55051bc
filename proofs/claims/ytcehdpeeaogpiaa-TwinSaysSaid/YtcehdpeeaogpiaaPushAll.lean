/-
  append of a whole slice to a slice of the call's own, at a step of a region that draws its order. Conditions: bounds on the lengths.
-/
import Derived.Test.YtcehdpeeaogpiaaBase
import Derived.Deep.RegionLaw
namespace Go.Proofs.Ytcehdpeeaogpiaa
open Go.RowKit

/-- append of a slice that is none, whatever room it tells -/
theorem run_append_none_any {P : Program} {w : World} (base : Nat) (t ty e : TypeId) (i : TypeInfo) (size : Nat) (ht : P.underlying t = some (.slice e)) (hi : P.info? e = some i)
    (v : Value) (n : Nat) (xs : List Value) (hown : w.ownsRow base e size v n xs) (c : Nat) : (Builtin.append_ #[t, t] ty #[v, .slice none 0 c]).run P w = .ok v w := by
  rcases hown.2 with ⟨rfl, rfl⟩ | ⟨g, cap, cur, rfl, _, _, hnc, _⟩
  · simp [Builtin.append_, run_underlying ht, sizeOf, typeInfo, hi, Builtin.lenOf, Builtin.firstCells]
  · simp [Builtin.append_, run_underlying ht, sizeOf, typeInfo, hi, Builtin.lenOf, Builtin.firstCells, hnc, storeCells]
theorem wp_pushAll {α : Type} {enc : α → List Value} {sz : Nat} {e : TypeId} {w : World} {base : Nat} {v : Value} {xs : List α} {P : Program} {o : Oper} {a : Act} {K : Act → World → Prop} {Q : Exit → Act → World → Prop} (s x : Operand) (t : TypeId)
    (ho : o.op = .call { callee := .builtin .append, args := #[s, x], argTypes := #[t, t] })
    (z : Value) (bytes : Nat) (ht : P.underlying t = some (.slice e)) (hinf : (P.info? e).map (fun i => (i.zero, i.size, i.bytes)) = some (some z, sz, bytes)) (hzs : z.cells.size = sz) (hsz : 0 < sz)
    (hlen : ∀ x, (enc x).length = sz) (hone : ∀ x, ∀ u ∈ enc x, u.oneCell' = true)
    (n : Nat) (hn : xs.length = n) (hs : a.eval s = v) (own : Own enc sz e w base v xs) (B : Nat) (ad : Option Addr) (m c : Nat) (ys : List α) (hm : ys.length = m) (hx : a.eval x = .slice ad m c) (hrow : Row enc sz w B ad ys)
    (hbound : (n + m) * bytes ≤ 140737488355328) (hmax : n + m ≤ maxLen) (hbase : base ≤ w.heap.size)
    (h : ∀ av c' w', Own enc sz e w' base (.slice av (n + m) c') (xs ++ ys) → Below base w w' → w.grownBy w' v.ownBlock → K (a.put o.dst (.slice av (n + m) c')) w') : o.wp P a w K Q := by
  subst hn hm
  obtain ⟨i0, hi, hz0, hz1, hz2⟩ := info_parts hinf
  cases ad with
  | none =>
    have hys : ys = [] := by
      cases ys with
      | nil => rfl
      | cons y r => obtain ⟨b, o, h1, _⟩ := hrow 0 (by simp); cases h1
    subst hys
    obtain ⟨av, c', rfl⟩ := own.shape rfl
    have hrun := run_append_none_any (P := P) (w := w) base t o.type e i0 sz ht hi _ xs.length (xs.flatMap enc) own c
    have hx' : a.eval x = .slice none 0 c := by simpa using hx
    unfold Oper.wp execOp
    simp only [ho, resolve, invoke, builtin, Sem.run_bind, Sem.run_pure, Result.andThen_ok, List.map_toArray, List.map_cons, List.map_nil, hs, hx', hrun]
    exact h av c' w (by simpa using own) (Below.refl _ _) ⟨rfl, rfl, rfl, Nat.le_refl _, fun _ _ _ => rfl⟩
  | some ad =>
    have hfl : (ys.flatMap enc).length = ys.length * sz := by
      clear hrow hx h hbound hmax
      induction ys with
      | nil => simp
      | cons x r ih => simp only [List.flatMap_cons, List.length_append, ih, hlen, List.length_cons, Nat.succ_mul]; omega
    refine wp_append_own (w := w) s x t ho base e i0 z sz bytes ht hi hz0 hz1 hz2 hzs hsz v xs.length (xs.flatMap enc) hs own ad ys.length c (ys.flatMap enc) hx hfl (hrow.flat hlen hsz ad rfl) ?_ hmax hbound hbase ?_
    · intro u hu
      obtain ⟨y, _, hy⟩ := List.mem_flatMap.1 hu
      exact hone y u hy
    intro v' w' own' hg _
    have own2 : Own enc sz e w' base v' (xs ++ ys) := by
      unfold Own
      rw [List.length_append, List.flatMap_append]
      exact own'
    obtain ⟨av, c', rfl⟩ := own2.shape (n := xs.length + ys.length) (by simp)
    exact h av c' w' own2 ((Below.refl _ _).grown hg hbase (fun k hk => (own.block_lt k hk).1)) hg

theorem step_pushAll {α : Type} {enc : α → List Value} {sz : Nat} {e : TypeId} {w : World} {base : Nat} {v : Value} {xs : List α} {P : Program} {ops : Array Oper} {o : Oper} {a : Act} {K : Act → World → Prop} {Q : Exit → Act → World → Prop} {E : Prop} (hgd : o.guard = none) (s x : Operand) (t : TypeId)
    (ho : o.op = .call { callee := .builtin .append, args := #[s, x], argTypes := #[t, t] })
    (z : Value) (bytes : Nat) (ht : P.underlying t = some (.slice e)) (hinf : (P.info? e).map (fun i => (i.zero, i.size, i.bytes)) = some (some z, sz, bytes)) (hzs : z.cells.size = sz) (hsz : 0 < sz)
    (hlen : ∀ x, (enc x).length = sz) (hone : ∀ x, ∀ u ∈ enc x, u.oneCell' = true)
    (n : Nat) (hn : xs.length = n) (hs : a.eval s = v) (own : Own enc sz e w base v xs) (B : Nat) (ad : Option Addr) (m c : Nat) (ys : List α) (hm : ys.length = m) (hx : a.eval x = .slice ad m c) (hrow : Row enc sz w B ad ys)
    (hbound : (n + m) * bytes ≤ 140737488355328) (hmax : n + m ≤ maxLen) (hbase : base ≤ w.heap.size)
    (h : ∀ av c' w', Own enc sz e w' base (.slice av (n + m) c') (xs ++ ys) → Below base w w' → w.grownBy w' v.ownBlock → K (a.put o.dst (.slice av (n + m) c')) w') :
    if Region.wanted o (yielded ops a.tmps) = true then Oper.wp P o a w K Q else E := by
  have hw : Region.wanted o (yielded ops a.tmps) = true := by simp [Region.wanted, hgd]
  rw [if_pos hw]
  exact wp_pushAll s x t ho z bytes ht hinf hzs hsz hlen hone n hn hs own B ad m c ys hm hx hrow hbound hmax hbase h
/-- at the list of a plain region's operations -/
theorem wpList_all {α : Type} {enc : α → List Value} {sz : Nat} {e : TypeId} {w : World} {base : Nat} {v : Value} {xs : List α} {P : Program} {ops : Array Oper} {rest : List Oper} {o : Oper} {a : Act} {Q : Exit → Act → World → Prop} (hgd : o.guard = none) (s x : Operand) (t : TypeId)
    (ho : o.op = .call { callee := .builtin .append, args := #[s, x], argTypes := #[t, t] })
    (z : Value) (bytes : Nat) (ht : P.underlying t = some (.slice e)) (hinf : (P.info? e).map (fun i => (i.zero, i.size, i.bytes)) = some (some z, sz, bytes)) (hzs : z.cells.size = sz) (hsz : 0 < sz)
    (hlen : ∀ x, (enc x).length = sz) (hone : ∀ x, ∀ u ∈ enc x, u.oneCell' = true)
    (n : Nat) (hn : xs.length = n) (hs : a.eval s = v) (own : Own enc sz e w base v xs) (B : Nat) (ad : Option Addr) (m c : Nat) (ys : List α) (hm : ys.length = m) (hx : a.eval x = .slice ad m c) (hrow : Row enc sz w B ad ys)
    (hbound : (n + m) * bytes ≤ 140737488355328) (hmax : n + m ≤ maxLen) (hbase : base ≤ w.heap.size)
    (h : ∀ av c' w', Own enc sz e w' base (.slice av (n + m) c') (xs ++ ys) → Below base w w' → w.grownBy w' v.ownBlock → wpList P ops Q rest (a.put o.dst (.slice av (n + m) c')) w') : wpList P ops Q (o :: rest) a w :=
  wpList_plain hgd fun _ hK => wp_pushAll s x t ho z bytes ht hinf hzs hsz hlen hone n hn hs own B ad m c ys hm hx hrow hbound hmax hbase fun av c' w' h1 h2 h3 => hK _ _ (h av c' w' h1 h2 h3)
end Go.Proofs.Ytcehdpeeaogpiaa
