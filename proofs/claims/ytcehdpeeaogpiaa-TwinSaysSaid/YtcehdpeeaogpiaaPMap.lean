/-
  A map from pairs of numbers to numbers that the call made: look-up, one more. Conditions: the keys fit 64 bits.
-/
import Derived.Test.YtcehdpeeaogpiaaOpen
import Derived.Test.YtcehdpeeaogpiaaBase
import Derived.Maps.Own
import Derived.Maps.OwnOps
import Derived.Maps.OwnSet
import Derived.Maps.RangeWalk
import Derived.Maps.Views
import Derived.DeepKeys4
import Derived.WideKeyEntry
namespace Go.Proofs.Ytcehdpeeaogpiaa
open Go.RowKit Go.Maps Go.ChangeMaps
set_option linter.unusedSimpArgs false
set_option linter.unusedVariables false
set_option maxRecDepth 4000
theorem pair_row : (86 : TypeId) < Try.prog.types.size := of_decide_eq_true (by kernel_rfl)
theorem pair_at : Try.prog.keyTypeAt 3 86 = true := by kernel_rfl
theorem pair_law : WideMaps.KeyLaw Try.prog 86 := deep_law_laid laidOut (m := 3) (by omega) pair_row pair_at (by rw [Try.underlying86])
theorem pair_size : ∃ m, Try.prog.types.size = m + 1 := by
  have := pair_row
  exact ⟨Try.prog.types.size - 1, (Nat.succ_pred_eq_of_pos (Nat.lt_of_le_of_lt (Nat.zero_le _) this)).symm⟩
theorem pair_keyed : Keyed Try.prog 86 := Keyed.of_law pair_law
theorem pair_type : Try.prog.keyType 86 = true := by kernel_rfl
theorem pair_cells : Try.prog.cellsOf 86 = 2 := by kernel_rfl
theorem int_cells : Try.prog.cellsOf 3 = 1 := by kernel_rfl
theorem zero_int' (w : World) : (zeroValue 3).run Try.prog w = .ok (.int .i64 0) w := by kernel_rfl
def kp (x y : Int) : Lit := .string (keyBytes [.int .i64 x, .int .i64 y])
theorem wf_bdI {x : Int} : (Lit.int .i64 x).wf = true ↔ Bd x := by
  simp [Bd, Lit.wf, IntKind.min, IntKind.max, IntKind.signed, IntKind.bits]
theorem lits_int (d : Nat) {x : Int} (h : Bd x) : Try.prog.keyLits (d + 1) 3 [.int .i64 x] = some [.int .i64 x] := by
  unfold Program.keyLits
  simp only [Try.underlying3]
  rw [if_pos ⟨by trivial, wf_bdI.2 h⟩]
theorem lits_int_inv {d : Nat} {cs : List Value} {L : List Lit} (h : Try.prog.keyLits (d + 1) 3 cs = some L) : ∃ x, cs = [.int .i64 x] ∧ Bd x ∧ L = [.int .i64 x] := by
  unfold Program.keyLits at h
  simp only [Try.underlying3] at h
  split at h
  all_goals first | (rename_i e; simp at e; done) | skip
  all_goals try (cases h; done)
  rename_i q q' n e1
  split at h
  · rename_i hc
    obtain ⟨rfl, hw⟩ := hc
    simp only [Option.some.injEq, TypeDesc.int.injEq] at e1
    subst e1
    simp only [Option.some.injEq] at h
    exact ⟨n, rfl, wf_bdI.1 hw, h.symm⟩
  · cases h
theorem key_pair {x y : Int} (hx : Bd x) (hy : Bd y) : keyOf Try.prog 86 (.agg #[.int .i64 x, .int .i64 y]) = some (kp x y) := by
  unfold keyOf
  simp only [Try.underlying86]
  rw [if_pos (by rw [pair_type]; simp [Value.formed, Try.underlying86, pair_cells])]
  obtain ⟨m, hm⟩ := pair_size
  rw [hm]
  unfold Program.keyLits
  simp only [Try.underlying86, Value.cells]
  rw [if_pos ⟨by rw [pair_cells]; rfl, by simp⟩]
  simp [lits_int m hx, lits_int m hy, int_cells, kp]
theorem key_pair_inv {v : Value} {kl : Lit} (h : keyOf Try.prog 86 v = some kl) : ∃ x y, v = .agg #[.int .i64 x, .int .i64 y] ∧ Bd x ∧ Bd y ∧ kl = kp x y := by
  obtain ⟨xs, L, rfl, hL, rfl⟩ := keyOf_top (by rw [Try.underlying86]) h
  obtain ⟨m, hm⟩ := pair_size
  rw [hm] at hL
  unfold Program.keyLits at hL
  simp only [Try.underlying86] at hL
  split at hL
  · rename_i hc
    have h2 : xs.toList.length = 2 := by rw [hc.1]; exact pair_cells
    obtain ⟨l⟩ := xs
    match l, h2 with
    | [c0, c1], _ =>
      cases e0 : Try.prog.keyLits (m + 1) 3 [c0] with
      | none => simp [e0, int_cells] at hL
      | some L0 =>
        cases e1 : Try.prog.keyLits (m + 1) 3 [c1] with
        | none => simp [e0, e1, int_cells] at hL
        | some L1 =>
          obtain ⟨x, hx, bx, rfl⟩ := lits_int_inv e0
          obtain ⟨y, hy, by', rfl⟩ := lits_int_inv e1
          simp [e0, e1, int_cells] at hL
          injection hx with hx
          injection hy with hy
          exact ⟨x, y, by rw [hx, hy], bx, by', by rw [kp, ← hL]⟩
  · cases hL
theorem kp_inj {x y x' y' : Int} (hx : Bd x) (hy : Bd y) (hx' : Bd x') (hy' : Bd y') (h : kp x y = kp x' y') : x = x' ∧ y = y' := by
  have := pair_law.inj (key_pair hx hy) (by rw [h]; exact key_pair hx' hy')
  simpa using this
/-- block b is a map of at most n entries that holds what f says; what is not there counts as nought -/
def PMap (w : World) (b n : Nat) (f : Int → Int → Int) : Prop :=
  ∃ D : DataW Unit, w.ownsMap Try.prog 86 (plainElem Try.prog 3) b n D ∧ IsMap D ∧ ∀ x y, Bd x → Bd y → D.atKey (kp x y) (.lit (.int .i64 0)) = .lit (.int .i64 (f x y))
/-- one more -/
def upP (f : Int → Int → Int) (x y : Int) : Int → Int → Int := fun u v => if u = x ∧ v = y then f x y + 1 else f u v
theorem PMap.made (w : World) : PMap (w.alloc (.map #[] 0)) w.heap.size 0 (fun _ _ => 0) :=
  ⟨.map [], World.ownsMap_made _ _ _ _, isMap_empty, fun x y _ _ => rfl⟩
section
variable {w w' : World} {b n : Nat} {f : Int → Int → Int}
theorem PMap.lt (h : PMap w b n f) : b < w.heap.size := by obtain ⟨D, h, _⟩ := h; exact h.lt
theorem PMap.alloc (h : PMap w b n f) (o : Obj) : PMap (w.alloc o) b n f := by obtain ⟨D, h, r⟩ := h; exact ⟨D, h.alloc o, r⟩
theorem PMap.drew (h : PMap w b n f) : PMap w.drew b n f := h
theorem PMap.block (h : PMap w b n f) (hb : w'.heap[b]? = w.heap[b]?) : PMap w' b n f := by
  obtain ⟨D, h1, r⟩ := h
  refine ⟨D, ?_, r⟩
  obtain ⟨es, clock, h2, h3⟩ := h1
  exact ⟨es, clock, hb.trans h2, h3⟩
theorem PMap.stays (h : PMap w b n f) (hb : Below w.heap.size w w') : PMap w' b n f := h.block (hb.block b h.lt)
/-- what 'm[k]++' does -/
def Bumps (w : World) (b n : Nat) (f : Int → Int → Int) (t : TypeId) (x y : Int) : Prop :=
  (Instr.lookup t (.map (some b)) (.agg #[.int .i64 x, .int .i64 y]) false).run Try.prog w = .ok (.int .i64 (f x y)) w ∧
  ∃ (v0 : Value) (st : Int) (W1 W2 : World), (Instr.mapEntry t (.map (some b)) (.agg #[.int .i64 x, .int .i64 y])).run Try.prog w = .ok (.tuple #[v0, .int .i64 st]) W1 ∧ (Instr.lookup t (.map (some b)) (.agg #[.int .i64 x, .int .i64 y]) false).run Try.prog W1 = .ok (.int .i64 (f x y)) W1 ∧
    (Instr.entryStore t (.map (some b)) (.int .i64 st) (.int .i64 (f x y + 1))).run Try.prog W1 = .ok () W2 ∧ PMap W2 b (n + 1) (upP f x y) ∧ w.grownBy W2 (some b)
theorem setBlock_twice (w : World) (b : Nat) (o o' : Obj) : setBlock (setBlock w b o) b o' = setBlock w b o' := by
  simp [setBlock]
theorem PMap.mono (h : PMap w b n f) {m : Nat} (hm : n ≤ m) : PMap w b m f := by obtain ⟨D, h, r⟩ := h; exact ⟨D, h.mono hm, r⟩
theorem PMap.look (h : PMap w b n f) (t : TypeId) (ht : Try.prog.underlying t = some (.map 86 3)) {x y : Int} (hx : Bd x) (hy : Bd y) :
    (Instr.lookup t (.map (some b)) (.agg #[.int .i64 x, .int .i64 y]) false).run Try.prog w = .ok (.int .i64 (f x y)) w := by
  obtain ⟨D, hown, hm, hf⟩ := h
  obtain ⟨c, hrun, hat, _⟩ := hown.lookup_int pair_keyed ht Try.underlying3 (zero_int' w) (key_pair hx hy)
  have hc : c = f x y := by
    have h1 := hf x y hx hy
    rw [hat] at h1
    simpa using h1
  rw [← hc]
  exact hrun
theorem entry_same (h : PMap w b n f) (t : TypeId) (ht : Try.prog.underlying t = some (.map 86 3)) (hn : n ≤ 1000000) {x y : Int} (hx : Bd x) (hy : Bd y) {v : Value} {W1 : World}
    (he : (Instr.mapEntry t (.map (some b)) (.agg #[.int .i64 x, .int .i64 y])).run Try.prog w = .ok v W1) : PMap W1 b (n + 1) f := by
  obtain ⟨D, hown, hm, hf⟩ := h
  have hkey := key_pair hx hy
  obtain ⟨c, hrun, hat, _⟩ := hown.lookup_int pair_keyed ht Try.underlying3 (zero_int' w) hkey
  have hc : c = f x y := by
    have h1 := hf x y hx hy
    rw [hat] at h1
    simpa using h1
  have hown' := hown
  obtain ⟨es, clock, hb, F, hs, hD⟩ := hown'
  rcases pair_law.find w hkey es.toList F.keys with ⟨h1, h2⟩ | ⟨j, e0, h1, h2, h3⟩
  · have e1 : (Instr.mapEntry t (.map (some b)) (.agg #[.int .i64 x, .int .i64 y])).run Try.prog w = .ok (.tuple #[.int .i64 0, goInt clock]) (setBlock w b (.map (es.push ⟨.agg #[.int .i64 x, .int .i64 y], .int .i64 0, clock⟩) (clock + 1))) := by
      simp [Instr.mapEntry, run_underlying ht, MapKept.run_getObj_map hb, pair_law.check w false hkey, h1, zero_int', MapKept.run_setObj_map _ hb, Result.andThen, setBlock]
    have e2 : (Instr.mapUpdate t (.map (some b)) (.agg #[.int .i64 x, .int .i64 y]) (.int .i64 0)).run Try.prog w = .ok () (setBlock w b (.map (es.push ⟨.agg #[.int .i64 x, .int .i64 y], .int .i64 0, clock⟩) (clock + 1))) := by
      simp [Instr.mapUpdate, run_underlying ht, MapKept.run_getObj_map hb, pair_law.check w false hkey, h1, MapKept.run_setObj_map _ hb, Result.andThen, setBlock]
    have e3 : c = 0 := by
      have e4 : (Instr.lookup t (.map (some b)) (.agg #[.int .i64 x, .int .i64 y]) false).run Try.prog w = .ok (.int .i64 0) w := by
        simp [Instr.lookup, run_underlying ht, MapKept.run_getObj_map hb, pair_law.check w es.isEmpty hkey, h1, zero_int', Result.andThen]
      rw [e4] at hrun
      simpa using hrun.symm
    rw [e1] at he
    injection he with _ hW
    subst hW
    obtain ⟨w2, hup, hown2, hg2⟩ := hown.update pair_keyed ht (by unfold maxLen; omega) hkey (plainElem_int Try.underlying3 (wf_bdI.2 (show Bd 0 by unfold Bd; omega)))
    rw [e2] at hup
    injection hup with _ hW
    subst hW
    refine ⟨_, hown2, hm.put _ _, fun u v hu hv => ?_⟩
    by_cases he : u = x ∧ v = y
    · obtain ⟨rfl, rfl⟩ := he
      rw [atKey_put_same hm (pair_keyed.key hkey), ← hc, e3]
    · have hne : kp u v ≠ kp x y := fun e => he (kp_inj hu hv hx hy e)
      rw [atKey_put_other hne, hf u v hu hv]
  · have hj : es[j]? = some e0 := by simpa using h2
    have hsame : es.modify j (fun e => { e with key := .agg #[.int .i64 x, .int .i64 y] }) = es := by
      apply Array.ext'
      rw [Array.toList_modify, modify_eq_set _ _ _ _ h2]
      have : ({ e0 with key := .agg #[.int .i64 x, .int .i64 y] } : MapEntry) = e0 := by rw [← h3]
      rw [this]
      exact WideElems.set_self _ _ _ h2
    have e1 : (Instr.mapEntry t (.map (some b)) (.agg #[.int .i64 x, .int .i64 y])).run Try.prog w = .ok (.tuple #[e0.val, goInt e0.born]) (setBlock w b (.map es clock)) := by
      simp [Instr.mapEntry, run_underlying ht, MapKept.run_getObj_map hb, pair_law.check w false hkey, h1, hj, h3, pair_law.stays w hkey, hsame, MapKept.run_setObj_map _ hb, Result.andThen, setBlock]
    rw [e1] at he
    injection he with _ hW
    subst hW
    exact PMap.mono (PMap.block (w := w) ⟨D, hown, hm, hf⟩ ((heap_setBlock_same hb _).trans hb.symm)) (Nat.le_succ _)
theorem PMap.bumps (h : PMap w b n f) (t : TypeId) (ht : Try.prog.underlying t = some (.map 86 3)) (hn : n ≤ 1000000) {x y : Int} (hx : Bd x) (hy : Bd y) (hz : Bd (f x y + 1)) : Bumps w b n f t x y := by
  obtain ⟨D, hown, hm, hf⟩ := h
  have hkey := key_pair hx hy
  obtain ⟨c, hrun, hat, _⟩ := hown.lookup_int pair_keyed ht Try.underlying3 (zero_int' w) hkey
  have hc : c = f x y := by
    have h1 := hf x y hx hy
    rw [hat] at h1
    simpa using h1
  subst hc
  refine ⟨hrun, ?_⟩
  obtain ⟨w2, hup, hown2, hg2⟩ := hown.update pair_keyed ht (by unfold maxLen; omega) hkey (plainElem_int Try.underlying3 (wf_bdI.2 hz))
  have hown' := hown
  obtain ⟨es, clock, hb, F, hs, hD⟩ := hown'
  obtain ⟨v0, st, es1, clock1, h1, -, h3⟩ := WideElems.entry_then_store pair_law ht zero_int' hb F hkey
  have hlt : b < w.heap.size := hown.lt
  obtain ⟨es', clock', h4, h5⟩ := h3 (setBlock w b (.map es1 clock1)) (.int .i64 (f x y + 1)) (ChangeMaps.heap_setBlock_same hb _)
  rw [setBlock_twice] at h4
  have hw2 : w2 = setBlock w b (.map es' clock') := by
    rw [hup] at h5
    injection h5
  subst hw2
  refine ⟨v0, st, _, _, h1, (entry_same ⟨D, hown, hm, hf⟩ t ht hn hx hy h1).look t ht hx hy, h4, ⟨_, hown2, hm.put _ _, fun u v hu hv => ?_⟩, hg2⟩
  have hkl : WideAt.IsKeyLit (kp x y) := pair_keyed.key hkey
  unfold upP
  by_cases he : u = x ∧ v = y
  · obtain ⟨rfl, rfl⟩ := he
    rw [atKey_put_same hm hkl]
    simp
  · have hne : kp u v ≠ kp x y := fun e => he (kp_inj hu hv hx hy e)
    rw [atKey_put_other hne, hf u v hu hv, if_neg he]
/-- a range over such a map under way -/
def PRng (w : World) (b r n : Nat) (f : Int → Int → Int) (left : Lit → Bool) (cnt : Nat) : Prop :=
  ∃ D : DataW Unit, w.ranges Try.prog 86 (plainElem Try.prog 3) b r n D left cnt ∧ ∀ x y, Bd x → Bd y → D.atKey (kp x y) (.lit (.int .i64 0)) = .lit (.int .i64 (f x y))
variable {r cnt : Nat} {left : Lit → Bool}
theorem PRng.left_eq (h : PRng w b r n f left cnt) : w.rangeLeft b r = cnt := by obtain ⟨D, h, _⟩ := h; exact h.left_eq
theorem PRng.alloc (h : PRng w b r n f left cnt) (o : Obj) : PRng (w.alloc o) b r n f left cnt := by obtain ⟨D, h, q⟩ := h; exact ⟨D, h.alloc o, q⟩
theorem PRng.kept (h : PRng w b r n f left cnt) {row : Option Nat} (hg : w.grownBy w' row) (h1 : some b ≠ row) (h2 : some r ≠ row) : PRng w' b r n f left cnt := by obtain ⟨D, h, q⟩ := h; exact ⟨D, h.kept hg h1 h2, q⟩
variable {ops : Array Oper} {rest : List Oper} {o : Oper} {a : Act} {Q : Exit → Act → World → Prop}
theorem wpList_pmap_range (hg : o.guard = none) (m : Operand) (t : TypeId) (hop : o.op = Op.range t m) (ht : Try.prog.underlying t = some (.map 86 3)) (h : PMap w b n f) (hm : a.eval m = .map (some b))
    (hK : ∀ w' left cnt, PRng w' b w.heap.size n f left cnt → (∀ x y, Bd x → Bd y → left (kp x y) = false → f x y = 0) → w.grownBy w' none → w'.heap.size = w.heap.size + 1 → wpList Try.prog ops Q rest (a.put o.dst (.pointer (some ⟨w.heap.size, 0, none⟩))) w') :
    wpList Try.prog ops Q (o :: rest) a w := by
  obtain ⟨D, hown, _, hf⟩ := h
  refine wpList_range_own w hg m t hop 86 3 pair_keyed ht _ b n D hm hown ?_
  intro w' h1 h2 h3
  refine hK w' _ _ ⟨D, h1, hf⟩ (fun x y hx hy hl => ?_) h2 h3
  have h4 := atKey_of_not_has hl (.lit (.int .i64 0))
  rw [hf x y hx hy] at h4
  simpa using h4
theorem wpList_pmap_next (hg : o.guard = none) (it : Operand) (hop : o.op = Op.next it false) (hit : a.eval it = .pointer (some ⟨r, 0, none⟩)) (h : PRng w b r n f left cnt)
    (hDone : (∀ x y, left (kp x y) = false) → wpList Try.prog ops Q rest (a.put o.dst (.tuple #[.bool false])) w)
    (hMore : ∀ (x y : Int) (w' : World) (left' : Lit → Bool) (cnt' : Nat), Bd x → Bd y → Bd (f x y) → PRng w' b r n f left' cnt' → (∀ u v, Bd u → Bd v → left' (kp u v) = false → left (kp u v) = false ∨ (u = x ∧ v = y)) → cnt' < cnt →
      w.grownBy w' (some r) → w'.heap.size = w.heap.size → (Instr.entry (.pointer (some ⟨r, 0, none⟩))).run Try.prog w' = .ok (.tuple #[.agg #[.int .i64 x, .int .i64 y], .int .i64 (f x y)]) w' →
      wpList Try.prog ops Q rest (a.put o.dst (.tuple #[.bool true, .agg #[.int .i64 x, .int .i64 y], .int .i64 (f x y)])) w') :
    wpList Try.prog ops Q (o :: rest) a w := by
  obtain ⟨D, hr, hf⟩ := h
  refine wpList_next_ranges w hg it hop 86 pair_keyed _ (fun (x : Int × Int) => .agg #[.int .i64 x.1, .int .i64 x.2]) (fun (c : Int) => .int .i64 c) ?_ ?_ b r n D left cnt hit hr ?_ ?_
  · intro key kl hk
    obtain ⟨x, y, h1, _⟩ := key_pair_inv hk
    exact ⟨(x, y), h1⟩
  · intro v y hv
    obtain ⟨c, h1, _⟩ := plainElem_int_inv Try.underlying3 hv
    exact ⟨c, h1⟩
  · intro _ hl
    exact hDone fun x y => hl _
  · rintro ⟨x, y⟩ c kl z w' cnt' hk hlk hv hat hr' hlt hgr hsz hen
    obtain ⟨x', y', h1, bx, by', rfl⟩ := key_pair_inv hk
    have hxy : x = x' ∧ y = y' := by simpa using h1
    obtain ⟨rfl, rfl⟩ := hxy
    obtain ⟨c', h2, h3, h4⟩ := plainElem_int_inv Try.underlying3 hv
    have hcc : c = c' := by simpa using h2
    subst hcc
    have hc : c = f x y := by
      have h5 := hf x y bx by'
      rw [hat, h3] at h5
      simpa using h5
    subst hc
    refine hMore x y w' _ cnt' bx by' (wf_bdI.1 h4) ⟨D, hr', hf⟩ (fun u v hu hv' hlf => ?_) hlt hgr hsz hen
    simp only [Bool.and_eq_false_iff, Bool.not_eq_false'] at hlf
    rcases hlf with h6 | h6
    · exact .inl h6
    · right
      by_cases he : kp u v = kp x y
      · exact kp_inj hu hv' bx by' he
      · rw [sameKey_ne he] at h6
        cases h6
end
end Go.Proofs.Ytcehdpeeaogpiaa
