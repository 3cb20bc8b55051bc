/-
  append of a whole slice to a slice of the call's own. Conditions: bounds on lengths.
-/
import Derived.Test.YtdpbkhempgghaaaOwn
import Derived.Laws.AppendOwnNone
namespace Go.Proofs.Ytdpbkhempgghaaa
open Go.RowKit

theorem Row.flat {α : Type} {enc : α → List Value} {sz : Nat} {w : World} {B : Nat} {a : Option Addr} {xs : List α} (hlen : ∀ x, (enc x).length = sz) (hpos : 0 < sz) (h : Row enc sz w B a xs) (ad : Addr) (ha : a = some ad) :
    ∀ j u, (xs.flatMap enc)[j]? = some u → w.cell? (ad.add j) = some u := by
  intro j u hu
  have hj := (List.getElem?_eq_some_iff.1 hu).1
  have hfl : (xs.flatMap enc).length = xs.length * sz := by
    clear h hu hj
    induction xs with
    | nil => simp
    | cons x r ih => simp only [List.flatMap_cons, List.length_append, ih, hlen, List.length_cons, Nat.succ_mul]; omega
  rw [hfl] at hj
  have hi : j / sz < xs.length := (Nat.div_lt_iff_lt_mul hpos).2 hj
  obtain ⟨b, o, h1, _, h3⟩ := h (j / sz) hi
  have hm : j % sz < (enc xs[j / sz]).length := by rw [hlen]; exact Nat.mod_lt _ hpos
  have e1 : j / sz * sz + j % sz = j := by rw [Nat.mul_comm]; exact Nat.div_add_mod j sz
  have h4 := flat_get hlen xs (j / sz) hi (j % sz) _ (List.getElem?_eq_getElem hm)
  rw [e1, hu] at h4
  rw [ha] at h1
  obtain rfl : ad = ⟨b, o, none⟩ := by simpa using h1
  rw [WideShapes.add_plain, Option.some.inj h4]
  have h5 := h3 (j % sz) _ (List.getElem?_eq_getElem hm)
  rw [Nat.add_assoc, e1] at h5
  exact h5

/-- append of a slice that reads as ys -/
theorem wpList_pushAll {α : Type} {enc : α → List Value} {sz : Nat} {e : TypeId} {w : World} {base : Nat} {v : Value} {xs : List α} {P : Program} {ops : Array Oper} {rest : List Oper} {o : Oper} {a : Act} {Q : Exit → Act → World → Prop} (hgd : o.guard = none) (s x : Operand) (t : TypeId)
    (ho : o.op = .call { callee := .builtin .append, args := #[s, x], argTypes := #[t, t] })
    (z : Value) (bytes : Nat) (ht : P.underlying t = some (.slice e)) (hinf : (P.info? e).map (fun i => (i.zero, i.size, i.bytes)) = some (some z, sz, bytes)) (hzs : z.cells.size = sz) (hsz : 0 < sz)
    (hlen : ∀ x, (enc x).length = sz) (hone : ∀ x, ∀ u ∈ enc x, u.oneCell' = true)
    (n : Nat) (hn : xs.length = n) (hs : a.eval s = v) (own : Own enc sz e w base v xs) (B : Nat) (ad : Option Addr) (m c : Nat) (ys : List α) (hm : ys.length = m) (hx : a.eval x = .slice ad m c) (hnil : ad = none → c = 0) (hrow : Row enc sz w B ad ys)
    (hbound : (n + m) * bytes ≤ 140737488355328) (hmax : n + m ≤ maxLen) (hbase : base ≤ w.heap.size)
    (h : ∀ av c' w', Own enc sz e w' base (.slice av (n + m) c') (xs ++ ys) → Below base w w' → w.grownBy w' v.ownBlock → wpList P ops Q rest (a.put o.dst (.slice av (n + m) c')) w') : wpList P ops Q (o :: rest) a w := by
  subst hn hm
  obtain ⟨i0, hi, hz0, hz1, hz2⟩ := info_parts hinf
  cases ad with
  | none =>
    have hys : ys = [] := by
      cases ys with
      | nil => rfl
      | cons y r => obtain ⟨b, o, h1, _⟩ := hrow 0 (by simp); cases h1
    subst hys
    obtain rfl := hnil rfl
    obtain ⟨av, c', rfl⟩ := own.shape rfl
    refine wpList_append_own_none hgd s x t ho base e i0 sz ht hi _ xs.length (xs.flatMap enc) hs own (by simpa using hx) ?_
    exact h av c' w (by simpa using own) (Below.refl _ _) ⟨rfl, rfl, rfl, Nat.le_refl _, fun _ _ _ => rfl⟩
  | some ad =>
    have hfl : (ys.flatMap enc).length = ys.length * sz := by
      clear hrow hx h hbound hmax
      induction ys with
      | nil => simp
      | cons x r ih => simp only [List.flatMap_cons, List.length_append, ih, hlen, List.length_cons, Nat.succ_mul]; omega
    refine wpList_append_own w hgd s x t ho base e i0 z sz bytes ht hi hz0 hz1 hz2 hzs hsz v xs.length (xs.flatMap enc) hs own ad ys.length c (ys.flatMap enc) hx hfl (hrow.flat hlen hsz ad rfl) ?_ hmax hbound hbase ?_
    · intro u hu
      obtain ⟨y, _, hy⟩ := List.mem_flatMap.1 hu
      exact hone y u hy
    intro v' w' own' hg _
    have own2 : Own enc sz e w' base v' (xs ++ ys) := by
      unfold Own
      rw [List.length_append, List.flatMap_append]
      exact own'
    obtain ⟨av, c', rfl⟩ := own2.shape (n := xs.length + ys.length) (by simp)
    exact h av c' w' own2 ((Below.refl _ _).grown hg hbase (fun k hk => (own.block_lt k hk).1)) hg

end Go.Proofs.Ytdpbkhempgghaaa
