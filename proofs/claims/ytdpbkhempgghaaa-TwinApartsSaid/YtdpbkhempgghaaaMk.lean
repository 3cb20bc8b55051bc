/-
  make of a slice of numbers, of bools, of slices: what it holds. Conditions: bounds on the length.
-/
import Derived.Test.YtdpbkhempgghaaaMat
import Derived.Test.YtdpbkhempgghaaaKeep
namespace Go.Proofs.Ytdpbkhempgghaaa
open Go.RowKit

theorem wpList_mk {α : Type} {enc : α → List Value} {e : TypeId} {P : Program} {w : World} {ops : Array Oper} {rest : List Oper} {o : Oper} {a : Act} {Q : Exit → Act → World → Prop} (hgd : o.guard = none) (l : Operand) (t : TypeId)
    (ho : o.op = Op.makeSlice t l l) (z : Value) (bytes : Nat) (x : α) (ht : P.underlying t = some (.slice e)) (hinf : (P.info? e).map (fun i => (i.zero, i.size, i.bytes)) = some (some z, 1, bytes)) (hz : z.cells = #[z]) (hx : enc x = [z])
    (n : Nat) (hl : a.eval l = .int .i64 (n : Int)) (hb : bytes * n ≤ 281474976710656) (hm : n ≤ maxLen) (base : Nat) (hbase : base ≤ w.heap.size)
    (h : ∀ w', Own enc 1 e w' base (.slice (some ⟨w.heap.size, 0, none⟩) n n) (List.replicate n x) → Below w.heap.size w w' → w.heap.size < w'.heap.size → wpList P ops Q rest (a.put o.dst (.slice (some ⟨w.heap.size, 0, none⟩) n n)) w') : wpList P ops Q (o :: rest) a w := by
  obtain ⟨i0, hi, hz0, hz1, hz2⟩ := info_parts hinf
  refine wpList_make_full w hgd l l t ho base e i0 z 1 ht hi hz0 hz1 .i64 .i64 (n : Int) (n : Int) n hl hl rfl rfl (by rw [hz2]; exact hb) hm hbase ?_
  intro w1 own1 hg1
  have own := own_made w1 base n _ e x z hz hx own1
  refine h w1 own ((Below.refl _ _).grown hg1 (Nat.le_refl _) (fun k hk => by cases hk)) ?_
  exact own.at_base.2
theorem own_rep {α : Type} (n : Nat) (x : α) : (List.replicate n x).length = n := by simp
/-- a made slice of slices, its rows still empty -/
theorem own2_rep {α : Type} {enc : α → List Value} {sz : Nat} {eo ei : TypeId} {w : World} {base g n c : Nat} (h : Own encV 1 eo w base (.slice (some ⟨g, 0, none⟩) n c) (List.replicate n (.slice none 0 0))) : Own2 enc sz eo ei w base (.slice (some ⟨g, 0, none⟩) n c) (List.replicate n ([] : List α)) := by
  refine ⟨List.replicate n (.slice none 0 0), by simp, h, ?_, ?_⟩
  · intro i h h'
    simp only [List.getElem_replicate]
    exact Own.nil _ _
  · intro i j hi hj k _ hk
    simp [Value.ownBlock] at hk
end Go.Proofs.Ytdpbkhempgghaaa
