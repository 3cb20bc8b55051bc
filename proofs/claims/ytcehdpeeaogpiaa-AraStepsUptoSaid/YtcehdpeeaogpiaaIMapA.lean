/-
  Several texts in one:
  A map from numbers to numbers that the call made: what it holds, look-up, store. Conditions: the key fits 64 bits.
  More on a map from numbers to numbers that the call made: look-up and store as runs, for regions that draw; the entries of a map's text. Conditions: the key fits 64 bits.
-/
import Derived.Test.YtcehdpeeaogpiaaOpen
import Derived.Test.YtcehdpeeaogpiaaBase
import Derived.Maps.Own
import Derived.Maps.OwnOps
import Derived.Maps.OwnSet
import Derived.Maps.Views
/-! A map from numbers to numbers that the call made: what it holds, look-up, store. Conditions: the key fits 64 bits. -/
namespace Go.Proofs.Ytcehdpeeaogpiaa
open Go.RowKit Go.Maps
set_option linter.unusedSimpArgs false
set_option linter.unusedVariables false
theorem int_law : Keyed Try.prog 3 := int_keyed Try.underlying3
theorem zero_int (w : World) : (zeroValue 3).run Try.prog w = .ok (.int .i64 0) w := by kernel_rfl
theorem wf_of_bd {x : Int} (h : Bd x) : (Lit.int .i64 x).wf = true := by
  simpa [Bd, Lit.wf, IntKind.min, IntKind.max, IntKind.signed, IntKind.bits] using h
theorem key_int {x : Int} (h : Bd x) : keyOf Try.prog 3 (.int .i64 x) = some (.int .i64 x) := keyOf_int_mk Try.underlying3 (wf_of_bd h)
/-- block b is a map of at most n entries that holds what f says -/
def IMap (w : World) (b n : Nat) (f : Int → Option Int) : Prop :=
  ∃ D : DataW Unit, w.ownsMap Try.prog 3 (plainElem Try.prog 3) b n D ∧ IsMap D ∧ ∀ x, D.atKey (.int .i64 x) (.lit (.int .i64 0)) = .lit (.int .i64 ((f x).getD 0)) ∧ Maps.has D (.int .i64 x) = (f x).isSome
def setM (f : Int → Option Int) (x y : Int) : Int → Option Int := fun z => if z = x then some y else f z
theorem IMap.made (w : World) : IMap (w.alloc (.map #[] 0)) w.heap.size 0 (fun _ => none) :=
  ⟨.map [], World.ownsMap_made _ _ _ _, isMap_empty, fun x => ⟨rfl, rfl⟩⟩
theorem IMap.lt {w : World} {b n : Nat} {f : Int → Option Int} (h : IMap w b n f) : b < w.heap.size := by
  obtain ⟨D, h, _⟩ := h; exact h.lt
theorem IMap.kept {w w' : World} {b n : Nat} {f : Int → Option Int} {row : Option Nat} (h : IMap w b n f) (hg : w.grownBy w' row) (hne : some b ≠ row) : IMap w' b n f := by
  obtain ⟨D, h, r⟩ := h; exact ⟨D, h.kept hg hne, r⟩
theorem IMap.alloc {w : World} {b n : Nat} {f : Int → Option Int} (h : IMap w b n f) (o : Obj) : IMap (w.alloc o) b n f := by
  obtain ⟨D, h, r⟩ := h; exact ⟨D, h.alloc o, r⟩
theorem IMap.drew {w : World} {b n : Nat} {f : Int → Option Int} (h : IMap w b n f) : IMap w.drew b n f := h
theorem IMap.block {w w' : World} {b n : Nat} {f : Int → Option Int} (h : IMap w b n f) (hb : w'.heap[b]? = w.heap[b]?) : IMap w' b n f := by
  obtain ⟨D, h1, r⟩ := h
  refine ⟨D, ?_, r⟩
  obtain ⟨es, clock, h2, h3⟩ := h1
  exact ⟨es, clock, hb.trans h2, h3⟩
theorem IMap.stays {w w' : World} {b n : Nat} {f : Int → Option Int} (h : IMap w b n f) (hb : Below w.heap.size w w') : IMap w' b n f := h.block (hb.block b h.lt)
theorem IMap.keep {S : Nat → Prop} {w w' : World} {b n : Nat} {f : Int → Option Int} (h : IMap w b n f) (hk : Keep S w w') (hs : ¬ S b) : IMap w' b n f := h.block (hk.block b h.lt hs)
section
variable {w : World} {ops : Array Oper} {rest : List Oper} {o : Oper} {a : Act} {Q : Exit → Act → World → Prop} {b n : Nat} {f : Int → Option Int}
theorem wpList_imap_look (hg : o.guard = none) (m x : Operand) (t : TypeId) (hop : o.op = Op.lookup t m x false) (ht : Try.prog.underlying t = some (.map 3 3)) (h : IMap w b n f) (y : Int) (hy : Bd y) (hm : a.eval m = .map (some b)) (hx : a.eval x = .int .i64 y)
    (hK : wpList Try.prog ops Q rest (a.put o.dst (.int .i64 ((f y).getD 0))) w) : wpList Try.prog ops Q (o :: rest) a w := by
  obtain ⟨D, hown, _, hf⟩ := h
  refine wpList_lookup_own_int w hg m x t hop 3 3 .i64 int_law ht Try.underlying3 (zero_int w) b n D hm hown _ _ hx (key_int hy) ?_
  intro c hc _
  rw [(hf y).1] at hc
  simp only [DataW.lit.injEq, Lit.int.injEq, true_and] at hc
  rw [← hc]
  exact hK
theorem wpList_imap_ok (hg : o.guard = none) (m x : Operand) (t : TypeId) (hop : o.op = Op.lookup t m x true) (ht : Try.prog.underlying t = some (.map 3 3)) (h : IMap w b n f) (y : Int) (hy : Bd y) (hm : a.eval m = .map (some b)) (hx : a.eval x = .int .i64 y)
    (hK : wpList Try.prog ops Q rest (a.put o.dst (.tuple #[.int .i64 ((f y).getD 0), .bool (f y).isSome])) w) : wpList Try.prog ops Q (o :: rest) a w := by
  obtain ⟨D, hown, _, hf⟩ := h
  refine wpList_lookup_own_ok_int w hg m x t hop 3 3 .i64 int_law ht Try.underlying3 (zero_int w) b n D hm hown _ _ hx (key_int hy) ?_
  intro c hc _
  rw [(hf y).1] at hc
  simp only [DataW.lit.injEq, Lit.int.injEq, true_and] at hc
  rw [← hc, (hf y).2]
  exact hK
theorem wpList_imap_put (hg : o.guard = none) (m x v : Operand) (t : TypeId) (hop : o.op = Op.mapUpdate t m x v) (ht : Try.prog.underlying t = some (.map 3 3)) (h : IMap w b n f) (hn : n ≤ 1000000000) (y z : Int) (hy : Bd y) (hz : Bd z) (hm : a.eval m = .map (some b)) (hx : a.eval x = .int .i64 y) (hv : a.eval v = .int .i64 z)
    (hK : ∀ w', IMap w' b (n + 1) (setM f y z) → w.grownBy w' (some b) → wpList Try.prog ops Q rest (a.put o.dst undef) w') : wpList Try.prog ops Q (o :: rest) a w := by
  obtain ⟨D, hown, hm2, hf⟩ := h
  refine wpList_mapUpdate_own w hg m x v t hop 3 3 int_law ht _ b n D hm hown (by unfold maxLen; omega) _ _ (.int .i64 y) hx hv (key_int hy) _ [] (plainElem_int Try.underlying3 (wf_of_bd hz)) ?_
  intro w' h1 h2
  refine hK w' ⟨_, h1, hm2.put _ _, fun u => ?_⟩ h2
  have hkl : WideAt.IsKeyLit (.int .i64 y) := by first | trivial | exact ⟨_, _, rfl⟩ | simp [WideAt.IsKeyLit]
  unfold setM
  by_cases hu : u = y
  · subst hu
    rw [atKey_put_same hm2 hkl, has_put_same hm2 hkl]
    simp
  · have hne : (Lit.int IntKind.i64 u) ≠ Lit.int IntKind.i64 y := by simpa using hu
    rw [atKey_put_other hne, has_put_other hne, (hf u).1, (hf u).2, if_neg hu]
    exact ⟨rfl, rfl⟩
end
end Go.Proofs.Ytcehdpeeaogpiaa

/-! More on a map from numbers to numbers that the call made: look-up and store as runs, for regions that draw; the entries of a map's text. Conditions: the key fits 64 bits. -/
namespace Go.Proofs.Ytcehdpeeaogpiaa
open Go.RowKit Go.Maps
set_option linter.unusedSimpArgs false
set_option linter.unusedVariables false
section
variable {w : World} {b n : Nat} {f : Int → Option Int}
theorem IMap.mono (h : IMap w b n f) {m : Nat} (hm : n ≤ m) : IMap w b m f := by obtain ⟨D, h, r⟩ := h; exact ⟨D, h.mono hm, r⟩
theorem IMap.drewN (h : IMap w b n f) (m : Nat) : IMap (w.drewN m) b n f := by
  induction m with
  | zero => exact h
  | succ m ih => exact ih.drew
theorem IMap.look (h : IMap w b n f) (t : TypeId) (ht : Try.prog.underlying t = some (.map 3 3)) {x : Int} (hx : Bd x) :
    (Instr.lookup t (.map (some b)) (.int .i64 x) false).run Try.prog w = .ok (.int .i64 ((f x).getD 0)) w := by
  obtain ⟨D, hown, hm, hf⟩ := h
  obtain ⟨c, hrun, hat, _⟩ := hown.lookup_int int_law ht Try.underlying3 (zero_int w) (key_int hx)
  have hc : c = (f x).getD 0 := by
    have h1 := (hf x).1
    rw [hat] at h1
    simpa using h1
  rw [← hc]
  exact hrun
theorem IMap.update (h : IMap w b n f) (t : TypeId) (ht : Try.prog.underlying t = some (.map 3 3)) (hn : n ≤ 1000000000) {x y : Int} (hx : Bd x) (hy : Bd y) :
    ∃ w', (Instr.mapUpdate t (.map (some b)) (.int .i64 x) (.int .i64 y)).run Try.prog w = .ok () w' ∧ IMap w' b (n + 1) (setM f x y) ∧ w.grownBy w' (some b) := by
  obtain ⟨D, hown, hm2, hf⟩ := h
  obtain ⟨w', hrun, h1, h2⟩ := hown.update int_law ht (by unfold maxLen; omega) (key_int hx) (plainElem_int Try.underlying3 (wf_of_bd hy))
  refine ⟨w', hrun, ⟨_, h1, hm2.put _ _, fun u => ?_⟩, h2⟩
  have hkl : WideAt.IsKeyLit (.int .i64 x) := by first | trivial | exact ⟨_, _, rfl⟩ | simp [WideAt.IsKeyLit]
  unfold setM
  by_cases hu : u = x
  · subst hu
    rw [atKey_put_same hm2 hkl, has_put_same hm2 hkl]
    simp
  · have hne : (Lit.int IntKind.i64 u) ≠ Lit.int IntKind.i64 x := by simpa using hu
    rw [atKey_put_other hne, has_put_other hne, (hf u).1, (hf u).2, if_neg hu]
    exact ⟨rfl, rfl⟩
theorem wpList_imap_ins {ops : Array Oper} {rest : List Oper} {o : Oper} {a : Act} {Q : Exit → Act → World → Prop} (hg : o.guard = none) (m x v : Operand) (t : TypeId) (hop : o.op = Op.insert t m x v) (ht : Try.prog.underlying t = some (.map 3 3)) (h : IMap w b n f) (hn : n ≤ 1000000000) (y z : Int) (hy : Bd y) (hz : Bd z) (hm : a.eval m = .map (some b)) (hx : a.eval x = .int .i64 y) (hv : a.eval v = .int .i64 z)
    (hK : ∀ w', IMap w' b (n + 1) (setM f y z) → w.grownBy w' (some b) → wpList Try.prog ops Q rest (a.put o.dst undef) w') : wpList Try.prog ops Q (o :: rest) a w := by
  refine wpList_plain hg fun K' hK' => ?_
  obtain ⟨w', hrun, r1, r2⟩ := h.update t ht hn hy hz
  unfold Oper.wp
  simp [execOp, hop, hm, hx, hv, hrun, Result.andThen]
  exact hK' _ _ (hK w' r1 r2)
/-- a store into a map at a step of a drawn region -/
theorem step_imap_put {ops : Array Oper} {o : Oper} {a : Act} {K : Act → World → Prop} {Q : Exit → Act → World → Prop} {E : Prop} (hg : o.guard = none) (m x v : Operand) (t : TypeId) (hop : o.op = Op.mapUpdate t m x v) (ht : Try.prog.underlying t = some (.map 3 3)) (h : IMap w b n f) (hn : n ≤ 1000000000) (y z : Int) (hy : Bd y) (hz : Bd z) (hm : a.eval m = .map (some b)) (hx : a.eval x = .int .i64 y) (hv : a.eval v = .int .i64 z)
    (hK : ∀ w', IMap w' b (n + 1) (setM f y z) → w.grownBy w' (some b) → K (a.put o.dst undef) w') : if Region.wanted o (yielded ops a.tmps) = true then Oper.wp Try.prog o a w K Q else E := by
  have hw : Region.wanted o (yielded ops a.tmps) = true := by simp [Region.wanted, hg]
  rw [if_pos hw]
  obtain ⟨w', hrun, r1, r2⟩ := h.update t ht hn hy hz
  unfold Oper.wp
  simp [execOp, hop, hm, hx, hv, hrun, Result.andThen]
  exact hK w' r1 r2
end
end Go.Proofs.Ytcehdpeeaogpiaa
