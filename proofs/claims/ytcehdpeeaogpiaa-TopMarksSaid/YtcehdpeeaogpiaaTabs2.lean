/-
  Two lists of rows that grow in turn, their slices kept in one block. Conditions: as each theorem says. No program here but the types' numbers.
-/
import Derived.Test.YtcehdpeeaogpiaaROut
import Derived.Test.YtcehdpeeaogpiaaBase
namespace Go.Proofs.Ytcehdpeeaogpiaa
open Go.RowKit

def S3.blk (s : S3) : Option Nat := s.a.map (·.block)
theorem ROut.keep {S : Nat → Prop} {eo : TypeId} {w w' : World} {base n : Nat} {v : Value} {ts : List S3} {rows : List (List Int)} (hk : Keep S w w') (h : ROut eo w base v n ts rows) (hv : ∀ k, v.ownBlock = some k → ¬ S k) (ha : ∀ s ∈ ts, ∀ k, s.blk = some k → ¬ S k) : ROut eo w' base v n ts rows := by
  refine ⟨h.1, hk.own h.2.1 hv, fun i hi => ?_⟩
  obtain ⟨bi, ci, h1, h2, h3, h4⟩ := h.2.2 i hi
  have hm : (⟨some ⟨bi, 0, none⟩, n, ci⟩ : S3) ∈ ts := List.mem_of_getElem? h1
  refine ⟨bi, ci, h1, ?_, h3, Nat.lt_of_lt_of_le h4 hk.size⟩
  intro j hj
  obtain ⟨b, o, e1, e2, e3⟩ := h2 j hj
  simp only [Option.some.injEq, Addr.mk.injEq] at e1
  obtain ⟨rfl, rfl, _⟩ := e1
  exact ⟨bi, 0, rfl, Nat.lt_of_lt_of_le e2 hk.size, fun x u hu => (hk.cell (by simpa using e2) (by simpa using ha _ hm bi rfl)).trans (e3 x u hu)⟩
theorem ROut.blk_lt {eo : TypeId} {w : World} {base n : Nat} {v : Value} {ts : List S3} {rows : List (List Int)} (h : ROut eo w base v n ts rows) {s : S3} (hs : s ∈ ts) {k : Nat} (hk : s.blk = some k) : k < w.heap.size := by
  obtain ⟨i, hi, rfl⟩ := List.getElem_of_mem hs
  obtain ⟨bi, ci, h1, _, _, h4⟩ := h.2.2 i (by rw [← h.1]; exact hi)
  rw [List.getElem?_eq_getElem hi, Option.some.injEq] at h1
  rw [h1] at hk
  simp [S3.blk] at hk
  omega
theorem ROut.below' {eo : TypeId} {w : World} {base base' n : Nat} {v : Value} {ts : List S3} {rows : List (List Int)} (h : ROut eo w base v n ts rows) (hb : base' ≤ base) : ROut eo w base' v n ts rows := ⟨h.1, h.2.1.base_le hb, h.2.2⟩

/-- two lists of rows in the block D, wD the world ahead of it -/
structure Tw (eo : TypeId) (D : Nat) (wD : World) (n : Nat) (v1 v2 : Value) (ts1 ts2 : List S3) (r1 r2 : List (List Int)) (wr : World) : Prop where
  c0 : wr.cell? ⟨D, 0, none⟩ = some v1
  c1 : wr.cell? ⟨D, 1, none⟩ = some v2
  f0 : wr.frozen? ⟨D, 0, none⟩ = false
  f1 : wr.frozen? ⟨D, 1, none⟩ = false
  t1 : ROut eo wr (D + 1) v1 n ts1 r1
  t2 : ROut eo wr (D + 1) v2 n ts2 r2
  sep : ∀ k, v1.ownBlock = some k → v2.ownBlock ≠ some k
  a1 : ∀ s ∈ ts1, ∀ k, s.blk = some k → D < k ∧ v2.ownBlock ≠ some k
  a2 : ∀ s ∈ ts2, ∀ k, s.blk = some k → D < k ∧ v1.ownBlock ≠ some k
  bel : Below D wD wr
section
variable {eo : TypeId} {wD wr w' : World} {D n : Nat} {v1 v2 v' : Value} {ts1 ts2 : List S3} {r1 r2 : List (List Int)}
theorem Tw.lt (h : Tw eo D wD n v1 v2 ts1 ts2 r1 r2 wr) : D < wr.heap.size := by have := cell_lt h.c0; simpa using this
theorem Tw.start (o : TypeId) (eo : TypeId) (D : Nat) (wD : World) (hD : wD.heap.size = D) (n : Nat) : Tw eo D wD n (.slice none 0 0) (.slice none 0 0) [] [] [] [] (wD.alloc (.cells #[.slice none 0 0, .slice none 0 0] o)) := by
  subst hD
  refine ⟨by simp [go_sem], by simp [go_sem], by simp [go_sem], by simp [go_sem], ROut.nil _ _ _ _, ROut.nil _ _ _ _, (fun k h => ?_), (fun s h => by cases h), (fun s h => by cases h), (Below.refl _ _).alloc (Nat.le_refl _) _⟩
  simp [Value.ownBlock] at h
theorem Tw.stays (h : Tw eo D wD n v1 v2 ts1 ts2 r1 r2 wr) (b : Below wr.heap.size wr w') : Tw eo D wD n v1 v2 ts1 ts2 r1 r2 w' :=
  have hl := h.lt
  ⟨cu_below b h.c0 hl, cu_below b h.c1 hl, fu_below b h.f0 hl, fu_below b h.f1 hl, h.t1.stays b, h.t2.stays b, h.sep, h.a1, h.a2, h.bel.trans (b.mono (Nat.le_of_lt hl))⟩
theorem Tw.drew (h : Tw eo D wD n v1 v2 ts1 ts2 r1 r2 wr) : Tw eo D wD n v1 v2 ts1 ts2 r1 r2 wr.drew := h.stays (below_drew _)
theorem Tw.alloc (h : Tw eo D wD n v1 v2 ts1 ts2 r1 r2 wr) (o : Obj) : Tw eo D wD n v1 v2 ts1 ts2 r1 r2 (wr.alloc o) := h.stays ((Below.refl _ _).alloc (Nat.le_refl _) _)
theorem Tw.drewN (h : Tw eo D wD n v1 v2 ts1 ts2 r1 r2 wr) (m : Nat) : Tw eo D wD n v1 v2 ts1 ts2 r1 r2 (wr.drewN m) := h.stays (up_drewN (Below.refl _ _))
theorem Tw.ap1 (h : Tw eo D wD n v1 v2 ts1 ts2 r1 r2 wr) : v1.ownBlock ≠ some D := fun e => by have := (h.t1.2.1.block_lt _ e).1; omega
theorem Tw.ap2 (h : Tw eo D wD n v1 v2 ts1 ts2 r1 r2 wr) : v2.ownBlock ≠ some D := fun e => by have := (h.t2.2.1.block_lt _ e).1; omega
/-- one more row in the first list -/
theorem Tw.push1 (h : Tw eo D wD n v1 v2 ts1 ts2 r1 r2 wr) {bi ci : Nat} {r : List Int} {o : Obj} (hr : Row encI 1 wr wr.heap.size (some ⟨bi, 0, none⟩) r) (hD : D < bi) (h1 : v1.ownBlock ≠ some bi) (h2 : v2.ownBlock ≠ some bi) (hlt : bi < wr.heap.size)
    (own : Own encS 1 eo w' (D + 1) v' (ts1 ++ [⟨some ⟨bi, 0, none⟩, n, ci⟩])) (hg : (wr.alloc o).grownBy w' v1.ownBlock) (hat : ∀ k, v'.ownBlock = some k → v1.ownBlock = some k ∨ wr.heap.size ≤ k) :
    Tw eo D wD n v' v2 (ts1 ++ [⟨some ⟨bi, 0, none⟩, n, ci⟩]) ts2 (r1 ++ [r]) r2 (w'.setCell ⟨D, 0, none⟩ v') := by
  have hl := h.lt
  have hap := h.ap1
  have hk : Keep (fun k => v1.ownBlock = some k) wr w' := ((Keep.refl _ _).alloc o).grown hg (fun k hk => .inl hk)
  have hs : Keep (fun k => k = D) w' (w'.setCell ⟨D, 0, none⟩ v') := (Keep.refl (fun k => k = D) w').setCell (.inl rfl) _
  have hz : wr.heap.size ≤ w'.heap.size := hk.size
  have c0' := hk.cu h.c0 hap
  have c1' := hk.cu h.c1 hap
  have fr : ∀ i, wr.frozen? ⟨D, i, none⟩ = false → (w'.setCell ⟨D, 0, none⟩ v').frozen? ⟨D, i, none⟩ = false := fun i hf => fu_set ((hk.frozen (by simpa using hl) (by simpa using hap)).trans hf)
  have away2 : ∀ s ∈ ts2, ∀ k, s.blk = some k → D < k ∧ v'.ownBlock ≠ some k := fun s hs k hk => by
    obtain ⟨g1, g2⟩ := h.a2 s hs k hk
    refine ⟨g1, fun e => ?_⟩
    rcases hat k e with e2 | e2
    · exact g2 e2
    · have := h.t2.blk_lt hs hk; omega
  have away1 : ∀ s ∈ ts1 ++ [(⟨some ⟨bi, 0, none⟩, n, ci⟩ : S3)], ∀ k, s.blk = some k → D < k ∧ v2.ownBlock ≠ some k := fun s hs k hk => by
    rcases List.mem_append.1 hs with hs | hs
    · exact h.a1 s hs k hk
    · obtain rfl := List.mem_singleton.1 hs
      simp only [S3.blk, Option.map_some, Option.some.injEq] at hk
      subst hk
      exact ⟨hD, h2⟩
  have t1' := h.t1.push hr h1 hlt own hg hat
  have t2' := h.t2.keep hk (fun k e => fun e2 => h.sep k e2 e) (fun s hs k hk => (h.a2 s hs k hk).2)
  refine ⟨World.cell?_setCell_same _ _ _ c0', cu_set_off c1' (by omega), fr 0 h.f0, fr 1 h.f1, ?_, ?_, ?_, away1, away2, ?_⟩
  · exact t1'.keep hs (fun k e1 e2 => by have := (t1'.2.1.block_lt k e1).1; omega) (fun s hs k hk e => by have := (away1 s hs k hk).1; omega)
  · exact t2'.keep hs (fun k e1 e2 => by have := (t2'.2.1.block_lt k e1).1; omega) (fun s hs k hk e => by have := (away2 s hs k hk).1; omega)
  · intro k e1 e2
    rcases hat k e1 with e3 | e3
    · exact h.sep k e3 e2
    · have := (h.t2.2.1.block_lt k e2).2; omega
  · exact (h.bel.trans (hk.toBelow (fun k e => by have := (h.t1.2.1.block_lt k e).1; omega) (by omega))).setCell (by simp) _
/-- one more row in the second list -/
theorem Tw.push2 (h : Tw eo D wD n v1 v2 ts1 ts2 r1 r2 wr) {bi ci : Nat} {r : List Int} {o : Obj} (hr : Row encI 1 wr wr.heap.size (some ⟨bi, 0, none⟩) r) (hD : D < bi) (h1 : v1.ownBlock ≠ some bi) (h2 : v2.ownBlock ≠ some bi) (hlt : bi < wr.heap.size)
    (own : Own encS 1 eo w' (D + 1) v' (ts2 ++ [⟨some ⟨bi, 0, none⟩, n, ci⟩])) (hg : (wr.alloc o).grownBy w' v2.ownBlock) (hat : ∀ k, v'.ownBlock = some k → v2.ownBlock = some k ∨ wr.heap.size ≤ k) :
    Tw eo D wD n v1 v' ts1 (ts2 ++ [⟨some ⟨bi, 0, none⟩, n, ci⟩]) r1 (r2 ++ [r]) (w'.setCell ⟨D, 1, none⟩ v') := by
  have hl := h.lt
  have hap := h.ap2
  have hk : Keep (fun k => v2.ownBlock = some k) wr w' := ((Keep.refl _ _).alloc o).grown hg (fun k hk => .inl hk)
  have hs : Keep (fun k => k = D) w' (w'.setCell ⟨D, 1, none⟩ v') := (Keep.refl (fun k => k = D) w').setCell (.inl rfl) _
  have hz : wr.heap.size ≤ w'.heap.size := hk.size
  have c0' := hk.cu h.c0 hap
  have c1' := hk.cu h.c1 hap
  have fr : ∀ i, wr.frozen? ⟨D, i, none⟩ = false → (w'.setCell ⟨D, 1, none⟩ v').frozen? ⟨D, i, none⟩ = false := fun i hf => fu_set ((hk.frozen (by simpa using hl) (by simpa using hap)).trans hf)
  have away1 : ∀ s ∈ ts1, ∀ k, s.blk = some k → D < k ∧ v'.ownBlock ≠ some k := fun s hs k hk => by
    obtain ⟨g1, g2⟩ := h.a1 s hs k hk
    refine ⟨g1, fun e => ?_⟩
    rcases hat k e with e2 | e2
    · exact g2 e2
    · have := h.t1.blk_lt hs hk; omega
  have away2 : ∀ s ∈ ts2 ++ [(⟨some ⟨bi, 0, none⟩, n, ci⟩ : S3)], ∀ k, s.blk = some k → D < k ∧ v1.ownBlock ≠ some k := fun s hs k hk => by
    rcases List.mem_append.1 hs with hs | hs
    · exact h.a2 s hs k hk
    · obtain rfl := List.mem_singleton.1 hs
      simp only [S3.blk, Option.map_some, Option.some.injEq] at hk
      subst hk
      exact ⟨hD, h1⟩
  have t2' := h.t2.push hr h2 hlt own hg hat
  have t1' := h.t1.keep hk (fun k e => fun e2 => h.sep k e e2) (fun s hs k hk => (h.a1 s hs k hk).2)
  refine ⟨cu_set_off c0' (by omega), World.cell?_setCell_same _ _ _ c1', fr 0 h.f0, fr 1 h.f1, ?_, ?_, ?_, away1, away2, ?_⟩
  · exact t1'.keep hs (fun k e1 e2 => by have := (t1'.2.1.block_lt k e1).1; omega) (fun s hs k hk e => by have := (away1 s hs k hk).1; omega)
  · exact t2'.keep hs (fun k e1 e2 => by have := (t2'.2.1.block_lt k e1).1; omega) (fun s hs k hk e => by have := (away2 s hs k hk).1; omega)
  · intro k e1 e2
    rcases hat k e2 with e3 | e3
    · exact h.sep k e1 e3
    · have := (h.t1.2.1.block_lt k e1).2; omega
  · exact (h.bel.trans (hk.toBelow (fun k e => by have := (h.t2.2.1.block_lt k e).1; omega) (by omega))).setCell (by simp) _
/-- both tables read, behind stores to a block ahead of them -/
theorem Tw.tabs {p : Nat} {a1 a2 : Option Addr} {k1 c1 k2 c2 : Nat} (h : Tw eo D wD n (.slice a1 k1 c1) (.slice a2 k2 c2) ts1 ts2 r1 r2 wr) (hp : p < D) (hw : Keep (fun k => k = p) wr w') : Tab w' w'.heap.size a1 n r1 ∧ Tab w' w'.heap.size a2 n r2 :=
  ⟨(h.t1.keep hw (fun k e1 e2 => by have := (h.t1.2.1.block_lt k e1).1; omega) (fun s hs k hk e => by have := (h.a1 s hs k hk).1; omega)).tab, (h.t2.keep hw (fun k e1 e2 => by have := (h.t2.2.1.block_lt k e1).1; omega) (fun s hs k hk e => by have := (h.a2 s hs k hk).1; omega)).tab⟩
end

/-- append of one element in a drawn region; where the new slice lies -/
theorem step_pushL {α : Type} {enc : α → List Value} {sz : Nat} {e : TypeId} {w : World} {base : Nat} {v : Value} {xs : List α} {P : Program} {ops : Array Oper} {o : Oper} {a : Act} {K : Act → World → Prop} {Q : Exit → Act → World → Prop} {E : Prop} (hgd : o.guard = none) (s x : Operand) (t : TypeId)
    (ho : o.op = .call { callee := .builtin .append, args := #[s, x], argTypes := #[t, t] })
    (z : Value) (bytes : Nat) (ht : P.underlying t = some (.slice e)) (hinf : (P.info? e).map (fun i => (i.zero, i.size, i.bytes)) = some (some z, sz, bytes)) (hzs : z.cells.size = sz) (hsz : 0 < sz)
    (hlen : ∀ x, (enc x).length = sz) (hone : ∀ x, ∀ u ∈ enc x, u.oneCell' = true)
    (n : Nat) (hn : xs.length = n) (hs : a.eval s = v) (own : Own enc sz e w base v xs) (ad : Addr) (c : Nat) (y : α) (hx : a.eval x = .slice (some ad) 1 c)
    (hcells : ∀ j u, (enc y)[j]? = some u → w.cell? (ad.add j) = some u) (hbound : (n + 1) * bytes ≤ 140737488355328) (hmax : n + 1 ≤ maxLen) (hbase : base ≤ w.heap.size)
    (h : ∀ g c' w', Own enc sz e w' base (.slice (some ⟨g, 0, none⟩) (n + 1) c') (xs ++ [y]) → Below base w w' → w.grownBy w' v.ownBlock → (v.ownBlock = some g ∨ g = w.heap.size) → g < w'.heap.size → K (a.put o.dst (.slice (some ⟨g, 0, none⟩) (n + 1) c')) w') :
    if Region.wanted o (yielded ops a.tmps) = true then Oper.wp P o a w K Q else E := by
  subst hn
  obtain ⟨i0, hi, hz0, hz1, hz2⟩ := info_parts hinf
  refine step_append_lies w hgd s x t ho base e i0 z sz bytes ht hi hz0 hz1 hz2 hzs hsz v xs.length (xs.flatMap enc) hs own ad 1 c (enc y) hx (by rw [hlen, Nat.one_mul]) hcells (hone y) (by omega) hmax hbound hbase w.heap.size rfl ?_
  intro g cap w' own' hg hat hlt
  have own2 : Own enc sz e w' base (.slice (some ⟨g, 0, none⟩) (xs.length + 1) cap) (xs ++ [y]) := by
    unfold Own
    rw [List.length_append, List.flatMap_append]
    simpa using own'
  exact h g cap w' own2 ((Below.refl _ _).grown hg hbase (fun k hk => (own.block_lt k hk).1)) hg hat hlt
end Go.Proofs.Ytcehdpeeaogpiaa
