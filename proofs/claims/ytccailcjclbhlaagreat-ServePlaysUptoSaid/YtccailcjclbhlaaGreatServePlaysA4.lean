/-
  A part of the proof of ServePlays: PushAll RowS RBack StarW NetL
-/
import Derived.Test.YtccailcjclbhlaaGreatServePlaysA1
import Derived.Deep.RegionLaw
import Derived.Test.YtccailcjclbhlaaGreatServePlaysA3
import Derived.Test.YtccailcjclbhlaaGreatServePlaysA2
import Derived.Deep.LoopGhost
import Derived.BigQuiet
import Derived.Deep.QuietTactic
import Derived.WalkSpells
import Derived.WalkLawsBesides
import Derived.LoopTactic
/-! append of a whole slice to a slice of the call's own, at a step of a region that draws its order. Conditions: bounds on the lengths. -/
namespace Go.Proofs.YtccailcjclbhlaaGreat
open Go.RowKit

/-- append of a slice that is none, whatever room it tells -/
theorem run_append_none_any {P : Program} {w : World} (base : Nat) (t ty e : TypeId) (i : TypeInfo) (size : Nat) (ht : P.underlying t = some (.slice e)) (hi : P.info? e = some i)
    (v : Value) (n : Nat) (xs : List Value) (hown : w.ownsRow base e size v n xs) (c : Nat) : (Builtin.append_ #[t, t] ty #[v, .slice none 0 c]).run P w = .ok v w := by
  rcases hown.2 with ⟨rfl, rfl⟩ | ⟨g, cap, cur, rfl, _, _, hnc, _⟩
  · simp [Builtin.append_, run_underlying ht, sizeOf, typeInfo, hi, Builtin.lenOf, Builtin.firstCells]
  · simp [Builtin.append_, run_underlying ht, sizeOf, typeInfo, hi, Builtin.lenOf, Builtin.firstCells, hnc, storeCells]
theorem wp_pushAll {α : Type} {enc : α → List Value} {sz : Nat} {e : TypeId} {w : World} {base : Nat} {v : Value} {xs : List α} {P : Program} {o : Oper} {a : Act} {K : Act → World → Prop} {Q : Exit → Act → World → Prop} (s x : Operand) (t : TypeId)
    (ho : o.op = .call { callee := .builtin .append, args := #[s, x], argTypes := #[t, t] })
    (z : Value) (bytes : Nat) (ht : P.underlying t = some (.slice e)) (hinf : (P.info? e).map (fun i => (i.zero, i.size, i.bytes)) = some (some z, sz, bytes)) (hzs : z.cells.size = sz) (hsz : 0 < sz)
    (hlen : ∀ x, (enc x).length = sz) (hone : ∀ x, ∀ u ∈ enc x, u.oneCell' = true)
    (n : Nat) (hn : xs.length = n) (hs : a.eval s = v) (own : Own enc sz e w base v xs) (B : Nat) (ad : Option Addr) (m c : Nat) (ys : List α) (hm : ys.length = m) (hx : a.eval x = .slice ad m c) (hrow : Row enc sz w B ad ys)
    (hbound : (n + m) * bytes ≤ 140737488355328) (hmax : n + m ≤ maxLen) (hbase : base ≤ w.heap.size)
    (h : ∀ av c' w', Own enc sz e w' base (.slice av (n + m) c') (xs ++ ys) → Below base w w' → w.grownBy w' v.ownBlock → K (a.put o.dst (.slice av (n + m) c')) w') : o.wp P a w K Q := by
  subst hn hm
  obtain ⟨i0, hi, hz0, hz1, hz2⟩ := info_parts hinf
  cases ad with
  | none =>
    have hys : ys = [] := by
      cases ys with
      | nil => rfl
      | cons y r => obtain ⟨b, o, h1, _⟩ := hrow 0 (by simp); cases h1
    subst hys
    obtain ⟨av, c', rfl⟩ := own.shape rfl
    have hrun := run_append_none_any (P := P) (w := w) base t o.type e i0 sz ht hi _ xs.length (xs.flatMap enc) own c
    have hx' : a.eval x = .slice none 0 c := by simpa using hx
    unfold Oper.wp execOp
    simp only [ho, resolve, invoke, builtin, Sem.run_bind, Sem.run_pure, Result.andThen_ok, List.map_toArray, List.map_cons, List.map_nil, hs, hx', hrun]
    exact h av c' w (by simpa using own) (Below.refl _ _) ⟨rfl, rfl, rfl, Nat.le_refl _, fun _ _ _ => rfl⟩
  | some ad =>
    have hfl : (ys.flatMap enc).length = ys.length * sz := by
      clear hrow hx h hbound hmax
      induction ys with
      | nil => simp
      | cons x r ih => simp only [List.flatMap_cons, List.length_append, ih, hlen, List.length_cons, Nat.succ_mul]; omega
    refine wp_append_own (w := w) s x t ho base e i0 z sz bytes ht hi hz0 hz1 hz2 hzs hsz v xs.length (xs.flatMap enc) hs own ad ys.length c (ys.flatMap enc) hx hfl (hrow.flat hlen hsz ad rfl) ?_ hmax hbound hbase ?_
    · intro u hu
      obtain ⟨y, _, hy⟩ := List.mem_flatMap.1 hu
      exact hone y u hy
    intro v' w' own' hg _
    have own2 : Own enc sz e w' base v' (xs ++ ys) := by
      unfold Own
      rw [List.length_append, List.flatMap_append]
      exact own'
    obtain ⟨av, c', rfl⟩ := own2.shape (n := xs.length + ys.length) (by simp)
    exact h av c' w' own2 ((Below.refl _ _).grown hg hbase (fun k hk => (own.block_lt k hk).1)) hg

theorem step_pushAll {α : Type} {enc : α → List Value} {sz : Nat} {e : TypeId} {w : World} {base : Nat} {v : Value} {xs : List α} {P : Program} {ops : Array Oper} {o : Oper} {a : Act} {K : Act → World → Prop} {Q : Exit → Act → World → Prop} {E : Prop} (hgd : o.guard = none) (s x : Operand) (t : TypeId)
    (ho : o.op = .call { callee := .builtin .append, args := #[s, x], argTypes := #[t, t] })
    (z : Value) (bytes : Nat) (ht : P.underlying t = some (.slice e)) (hinf : (P.info? e).map (fun i => (i.zero, i.size, i.bytes)) = some (some z, sz, bytes)) (hzs : z.cells.size = sz) (hsz : 0 < sz)
    (hlen : ∀ x, (enc x).length = sz) (hone : ∀ x, ∀ u ∈ enc x, u.oneCell' = true)
    (n : Nat) (hn : xs.length = n) (hs : a.eval s = v) (own : Own enc sz e w base v xs) (B : Nat) (ad : Option Addr) (m c : Nat) (ys : List α) (hm : ys.length = m) (hx : a.eval x = .slice ad m c) (hrow : Row enc sz w B ad ys)
    (hbound : (n + m) * bytes ≤ 140737488355328) (hmax : n + m ≤ maxLen) (hbase : base ≤ w.heap.size)
    (h : ∀ av c' w', Own enc sz e w' base (.slice av (n + m) c') (xs ++ ys) → Below base w w' → w.grownBy w' v.ownBlock → K (a.put o.dst (.slice av (n + m) c')) w') :
    if Region.wanted o (yielded ops a.tmps) = true then Oper.wp P o a w K Q else E := by
  have hw : Region.wanted o (yielded ops a.tmps) = true := by simp [Region.wanted, hgd]
  rw [if_pos hw]
  exact wp_pushAll s x t ho z bytes ht hinf hzs hsz hlen hone n hn hs own B ad m c ys hm hx hrow hbound hmax hbase h
/-- at the list of a plain region's operations -/
theorem wpList_all {α : Type} {enc : α → List Value} {sz : Nat} {e : TypeId} {w : World} {base : Nat} {v : Value} {xs : List α} {P : Program} {ops : Array Oper} {rest : List Oper} {o : Oper} {a : Act} {Q : Exit → Act → World → Prop} (hgd : o.guard = none) (s x : Operand) (t : TypeId)
    (ho : o.op = .call { callee := .builtin .append, args := #[s, x], argTypes := #[t, t] })
    (z : Value) (bytes : Nat) (ht : P.underlying t = some (.slice e)) (hinf : (P.info? e).map (fun i => (i.zero, i.size, i.bytes)) = some (some z, sz, bytes)) (hzs : z.cells.size = sz) (hsz : 0 < sz)
    (hlen : ∀ x, (enc x).length = sz) (hone : ∀ x, ∀ u ∈ enc x, u.oneCell' = true)
    (n : Nat) (hn : xs.length = n) (hs : a.eval s = v) (own : Own enc sz e w base v xs) (B : Nat) (ad : Option Addr) (m c : Nat) (ys : List α) (hm : ys.length = m) (hx : a.eval x = .slice ad m c) (hrow : Row enc sz w B ad ys)
    (hbound : (n + m) * bytes ≤ 140737488355328) (hmax : n + m ≤ maxLen) (hbase : base ≤ w.heap.size)
    (h : ∀ av c' w', Own enc sz e w' base (.slice av (n + m) c') (xs ++ ys) → Below base w w' → w.grownBy w' v.ownBlock → wpList P ops Q rest (a.put o.dst (.slice av (n + m) c')) w') : wpList P ops Q (o :: rest) a w :=
  wpList_plain hgd fun _ hK => wp_pushAll s x t ho z bytes ht hinf hzs hsz hlen hone n hn hs own B ad m c ys hm hx hrow hbound hmax hbase fun av c' w' h1 h2 h3 => hK _ _ (h av c' w' h1 h2 h3)
end Go.Proofs.YtccailcjclbhlaaGreat
/-! One number, two numbers in a row; a slice of one number, just built. No condition. -/
namespace Go.Proofs.YtccailcjclbhlaaGreat
open Go.RowKit
set_option linter.unusedSimpArgs false
set_option linter.unusedVariables false
theorem row1 {w : World} {b : Nat} {x : Int} (h : w.cell? ⟨b, 0, none⟩ = some (.int .i64 x)) : Row encI 1 w w.heap.size (some ⟨b, 0, none⟩) [x] := by
  intro i hi
  refine ⟨b, 0, rfl, cell_lt h, fun j u hu => ?_⟩
  have : i = 0 := by simpa using hi
  subst this
  match j, hu with
  | 0, hu => simp [encI] at hu; subst hu; simpa using h
theorem row2 {w : World} {b : Nat} {x y : Int} (h : w.cell? ⟨b, 0, none⟩ = some (.int .i64 x)) (h2 : w.cell? ⟨b, 1, none⟩ = some (.int .i64 y)) : Row encI 1 w w.heap.size (some ⟨b, 0, none⟩) [x, y] := by
  intro i hi
  refine ⟨b, 0, rfl, cell_lt h, fun j u hu => ?_⟩
  match i, hi, j, hu with
  | 0, _, 0, hu => simp [encI] at hu; subst hu; simpa using h
  | 1, _, 0, hu => simp [encI] at hu; subst hu; simpa using h2
/-- a slice of one number, just built -/
theorem own_one (w : World) (base : Nat) (e : TypeId) (x : Int) (hb : base ≤ w.heap.size) : Own encI 1 e (w.alloc (.cells #[.int .i64 x] e)) base (.slice (some ⟨w.heap.size, 0, none⟩) 1 1) [x] :=
  ⟨rfl, .inr ⟨w.heap.size, 1, #[.int .i64 x], rfl, hb, heap_alloc_new w _, Nat.le_refl _, by unfold maxLen; decide, rfl, rfl⟩⟩
end Go.Proofs.YtccailcjclbhlaaGreat
/-! What the reference's back returns: the way to a place. Conditions: the way up is there; the map says where each was come to from. -/
namespace Go.Proofs.YtccailcjclbhlaaGreat
open Go.RowKit
set_option linter.unusedSimpArgs false
set_option linter.unusedVariables false
def predM (n : Nat) (pred : Nat → Int) : Int → Option Int := fun x => if 0 ≤ x ∧ x < (n : Int) ∧ 0 ≤ pred x.toNat then some (pred x.toNat) else none
theorem chain_pred {pred : Nat → Int} {v : Nat} {l : List Nat} (h : Chain pred v l) : ∀ j (hj : j < l.length), (∀ h2 : j + 1 < l.length, pred l[j] = (l[j + 1] : Int)) ∧ (j + 1 = l.length → pred l[j] < 0) := by
  induction h with
  | top v h =>
    intro j hj
    simp at hj
    subst hj
    exact ⟨fun h2 => by simp at h2, fun _ => h⟩
  | step v u l h hc ih =>
    intro j hj
    cases j with
    | zero =>
      obtain ⟨t, rfl⟩ := chain_head hc
      exact ⟨fun _ => by simpa using h, fun h2 => by simp at h2⟩
    | succ j =>
      have h3 := ih j (by simpa using hj)
      exact ⟨fun h2 => by simpa using h3.1 (by simpa using h2), fun h2 => by simpa using h3.2 (by simpa using h2)⟩
theorem lp_front (l : List Nat) (j : Nat) (h : j + 1 < l.length) : [((l[j + 1] : Nat) : Int)] ++ LP (l.take (j + 1)).reverse = LP (l.take (j + 1 + 1)).reverse := by
  rw [List.take_succ_eq_append_getElem h, List.reverse_append]
  simp only [LP, List.reverse_cons, List.reverse_nil, List.nil_append, List.singleton_append, List.map_cons]
set_option maxRecDepth 100000 in
set_option maxHeartbeats 1000000 in
theorem rback_any (n nm v pb : Nat) (fr : Int) (pred : Nat → Int) (l : List Nat) (w : World) (hM : IMap w pb nm (predM n pred)) (hl : Chain pred v l) (hn : n ≤ 64) (hll : l.length ≤ n) (hm : ∀ x ∈ l, x < n) :
    Calls Tryz.prog 80 #[.map (some pb), .int .i64 fr, .int .i64 (v : Int)] w fun e w' => ∃ a k, e = .returned (.slice a l.length k) ∧ Own encI 1 3 w' w.heap.size (.slice a l.length k) (LP l.reverse) ∧ Below w.heap.size w w' := by
  have hcp := hide (chain_pred hl)
  have hL1' : 1 ≤ l.length := by obtain ⟨t, rfl⟩ := chain_head hl; simp
  have h0v : l[0]'hL1' = v := by obtain ⟨t, rfl⟩ := chain_head hl; rfl
  obtain ⟨L, hL⟩ : ∃ L, L = l.length := ⟨_, rfl⟩
  have hpl : pb < w.heap.size := hM.lt
  have hL1 : 1 ≤ L := by rw [hL]; exact hL1'
  have own1 := own_one w w.heap.size 3 (v : Int) (Nat.le_refl _)
  have hl1 : [(v : Int)] = LP (l.take 1).reverse := by
    rw [List.take_succ_eq_append_getElem (show 0 < l.length from hL1'), h0v]
    simp [LP]
  rw [hl1] at own1
  replace own1 := hide own1
  replace hm := hide hm
  replace hM := hide hM
  have hb1 := hide (up_alloc (Below.refl _ _) (Nat.le_refl _) : Below w.heap.size w (w.alloc (.cells #[.int .i64 (v : Int)] 3)))
  rw [← hL] at hll ⊢
  replace hL := hide hL
  clear hl hl1 h0v hL1'
  go_enter Tryz.func80, Tryz.ntmps80
  go_wp2
  go_loopg [7] (L - 1) (fun gk s7 wr => ∃ (j cv : Nat) (av : Option Addr), j + 1 + gk = L ∧ s7 = .slice av (j + 1) cv ∧ Hid (Own encI 1 3 wr w.heap.size (.slice av (j + 1) cv) (LP (l.take (j + 1)).reverse)) ∧ Hid (Below w.heap.size w wr))
  case atStart => exact ⟨0, _, _, by omega, rfl, own1, hb1⟩
  case round =>
    clear own1 hb1
    obtain ⟨j, cv, av, hj, rfl, hO, hb⟩ := hrel
    obtain ⟨g, rfl, hg1, hg2⟩ := hO.out.blockI' (by omega)
    have hz := hb.out.size
    have hjl : j < l.length := by have := hL.out; omega
    have hhead : (LP (l.take (j + 1)).reverse)[0]'(by rw [lp_len]; simp; omega) = ((l[j] : Nat) : Int) := by
      rw [List.getElem_of_eq (show LP (l.take (j + 1)).reverse = ((l[j] : Nat) : Int) :: LP (l.take j).reverse by rw [List.take_succ_eq_append_getElem hjl, List.reverse_append]; simp only [LP, List.reverse_cons, List.reverse_nil, List.nil_append, List.singleton_append, List.map_cons])]
      rfl
    have c0 := hO.out.getI 0 (by rw [lp_len]; simp; omega)
    rw [hhead] at c0
    have hxn := hm.out l[j] (List.getElem_mem hjl)
    obtain ⟨hp1, hp2⟩ := hcp.out j hjl
    have hfr := hide (fun h => lp_front l j h)
    obtain ⟨x, hx⟩ : ∃ x, x = l[j] := ⟨_, rfl⟩
    rw [← hx] at c0 hxn hp1 hp2
    have hMr := hide (hM.out.stays (hb.out.mono (by omega) : Below w.heap.size w wr))
    have hBd : Bd (x : Int) := by unfold Bd; omega
    have ij : (0 : Int) < ((j + 1 : Nat) : Int) := by omega
    replace hx := hide hx
    by_cases hlast : gk = 0
    · have hneg := hp2 (by have := hL.out; omega)
      have hpm : predM n pred (x : Int) = none := by unfold predM; rw [if_neg (fun h => by have := h.2.2; simp at this; omega)]
      have hjL : j + 1 = L := by omega
      have e1 : l.take (j + 1) = l := List.take_of_length_le (by have := hL.out; omega)
      have hfin := hide (show Own encI 1 3 wr w.heap.size (.slice (some ⟨g, 0, none⟩) (j + 1) cv) (LP l.reverse) by have := hO.out; rw [e1] at this; exact this)
      replace hpm := hide hpm
      replace hjL := hide hjL
      clear hp1 hp2 hneg e1 hhead hO
      go_wp2_with (at_lookup; (refine wpList_imap_ok rfl (.tmp 13) (.tmp 16) 86 rfl Tryz.underlying86 hMr.out (x : Int) hBd rfl rfl ?_); rw [hpm.out]; simp only [Option.getD_none, Option.isSome_none])
      go_ret
      rw [← hjL.out]
      exact ⟨_, cv, rfl, hfin.out, hb.out⟩
    · obtain ⟨gk', rfl⟩ : ∃ gk', gk = gk' + 1 := ⟨gk - 1, by omega⟩
      have hjl2 : j + 1 < l.length := by have := hL.out; omega
      have hps := hp1 hjl2
      have hf2 := hfr.out hjl2
      obtain ⟨y, hy⟩ : ∃ y, y = l[j + 1] := ⟨_, rfl⟩
      rw [← hy] at hps hf2
      have hpm : predM n pred (x : Int) = some (y : Int) := by unfold predM; rw [if_pos ⟨by omega, by omega, by simp; omega⟩]; simp [hps]
      have own9 := hide (own_one wr w.heap.size 3 (y : Int) hz)
      have hlen : (LP (l.take (j + 1)).reverse).length = j + 1 := by rw [lp_len]; simp; omega
      have hrow9 : Row encI 1 (wr.alloc (.cells #[.int .i64 (y : Int)] 3)) (wr.heap.size + 1) (some ⟨g, 0, none⟩) (LP (l.take (j + 1)).reverse) := by
        obtain ⟨a', c', hv, hr, _⟩ := hO.out.row lenI
        simp only [Value.slice.injEq] at hv
        obtain ⟨rfl, _⟩ := hv
        exact (hr.below (up_alloc (Below.refl _ _) (Nat.le_refl _)) (Nat.le_refl _)).mono (by omega)
      have hnn : 1 + (j + 1) = j + 1 + 1 := by omega
      replace hnn := hide hnn
      replace hpm := hide hpm
      replace hrow9 := hide hrow9
      replace hlen := hide hlen
      replace hf2 := hide hf2
      replace hps := hide hps
      replace hy := hide hy
      have hBl := hide (show ∀ w6, Below w.heap.size (wr.alloc (.cells #[.int .i64 (y : Int)] 3)) w6 → Below w.heap.size w w6 from fun w6 h6 => hb.out.trans (unalloc h6 hz))
      clear hp1 hp2 hhead
      go_wp2_with (first
        | (at_lookup; (refine wpList_imap_ok rfl (.tmp 13) (.tmp 16) 86 rfl Tryz.underlying86 hMr.out (x : Int) hBd rfl rfl ?_); rw [hpm.out]; simp only [Option.getD_some, Option.isSome_some])
        | (at_builtin; (refine wpList_all rfl (.tmp 24) (.tmp 25) 22 rfl _ 8 Tryz.underlying22 info_int rfl ?d1 lenI oneI 1 rfl rfl own9.out (wr.heap.size + 1) (some ⟨g, 0, none⟩) (j + 1) cv (LP (l.take (j + 1)).reverse) hlen.out rfl hrow9.out ?d4 ?d5 ?d6 ?_); (case d1 => omega); (case d4 => omega); (case d5 => unfold maxLen; omega); (case d6 => first | omega | (simp; omega)); intro a6 c6 w6 own6 hb6' hg6; rw [hnn.out, hf2.out] at own6; rw [hnn.out]; have hB6 := hide (hBl.out _ hb6'); replace own6 := hide own6; replace hb6' := hide hb6'; replace hg6 := hide hg6))
      go_roundg gk'
      case measure => omega
      case rel => exact ⟨j + 1, c6, a6, by omega, rfl, own6, hB6⟩
end Go.Proofs.YtccailcjclbhlaaGreat
/-! The reference's search: its lists and maps against costs, ways and order. No program here. -/
namespace Go.Proofs.YtccailcjclbhlaaGreat
open Go.RowKit
set_option linter.unusedSimpArgs false
set_option linter.unusedVariables false
/-- the costs so far as the reference's map has them -/
def costM (n : Nat) (cost : Nat → Int) : Int → Option Int := fun x => if 0 ≤ x ∧ x < (n : Int) ∧ cost x.toNat < FAR then some (cost x.toNat) else none
theorem costM_at {n u : Nat} {cost : Nat → Int} (hu : u < n) (hc : cost u < FAR) : costM n cost (u : Int) = some (cost u) := by
  unfold costM
  rw [if_pos ⟨by omega, by omega, by simpa using hc⟩]
  simp
theorem costM_no {n u : Nat} {cost : Nat → Int} (hc : ¬ cost u < FAR) : costM n cost (u : Int) = none := by
  unfold costM
  rw [if_neg (fun h => hc (by simpa using h.2.2))]
def fstep (pl : Nat → Ed) (b : Int) (v : Nat) : Int := if b < 0 ∨ plLt (pl v) (pl b.toNat) = true then (v : Int) else b
def firstR (pl : Nat → Ed) (l : List Nat) : Int := l.foldl (fstep pl) (-1)
theorem firstR_from (pl : Nat → Ed) : ∀ (l : List Nat) (b : Nat), ∃ v : Nat, l.foldl (fstep pl) (b : Int) = (v : Int) ∧ (v = b ∨ v ∈ l) ∧ plLt (pl b) (pl v) = false ∧ ∀ u ∈ l, plLt (pl u) (pl v) = false
  | [], b => ⟨b, rfl, .inl rfl, plLt_ord.irr _, fun u hu => by cases hu⟩
  | x :: r, b => by
    rw [List.foldl_cons]
    by_cases h : plLt (pl x) (pl b) = true
    · have e : fstep pl (b : Int) x = (x : Int) := by unfold fstep; rw [if_pos (.inr (by simpa using h))]
      rw [e]
      obtain ⟨v, h1, h2, h3, h4⟩ := firstR_from pl r x
      refine ⟨v, h1, ?_, ?_, fun u hu => ?_⟩
      · rcases h2 with rfl | h2
        · exact .inr (List.mem_cons_self ..)
        · exact .inr (List.mem_cons_of_mem _ h2)
      · exact plLt_ord.trans _ _ _ h3 (plLt_ord.asym _ _ h)
      · rcases List.mem_cons.1 hu with rfl | hu
        · exact h3
        · exact h4 u hu
    · have h' : plLt (pl x) (pl b) = false := by simpa using h
      have e : fstep pl (b : Int) x = (b : Int) := by unfold fstep; rw [if_neg (by rintro (h1 | h1); omega; exact h (by simpa using h1))]
      rw [e]
      obtain ⟨v, h1, h2, h3, h4⟩ := firstR_from pl r b
      refine ⟨v, h1, ?_, h3, fun u hu => ?_⟩
      · rcases h2 with rfl | h2
        · exact .inl rfl
        · exact .inr (List.mem_cons_of_mem _ h2)
      · rcases List.mem_cons.1 hu with rfl | hu
        · exact plLt_ord.trans _ _ _ h3 h'
        · exact h4 u hu
theorem firstR_mem (pl : Nat → Ed) {l : List Nat} (h : l ≠ []) : ∃ v : Nat, firstR pl l = (v : Int) ∧ v ∈ l ∧ ∀ u ∈ l, plLt (pl u) (pl v) = false := by
  cases l with
  | nil => exact absurd rfl h
  | cons x r =>
    have e : fstep pl (-1) x = (x : Int) := by unfold fstep; rw [if_pos (.inl (by omega))]
    unfold firstR
    rw [List.foldl_cons, e]
    obtain ⟨v, h1, h2, h3, h4⟩ := firstR_from pl r x
    refine ⟨v, h1, ?_, fun u hu => ?_⟩
    · rcases h2 with rfl | h2
      · exact List.mem_cons_self ..
      · exact List.mem_cons_of_mem _ h2
    · rcases List.mem_cons.1 hu with rfl | hu
      · exact h3
      · exact h4 u hu
/-- the list of those that wait -/
structure WL (n : Nat) (s : SR) (ws : List Nat) : Prop where
  nd : ws.Nodup
  iff : ∀ v, v ∈ ws ↔ Waits n s v
theorem lp_mem {u : Nat} {l : List Nat} : (u : Int) ∈ LP l ↔ u ∈ l := by
  unfold LP
  rw [List.mem_map]
  constructor
  · rintro ⟨v, h1, h2⟩
    have : v = u := by omega
    exact this ▸ h1
  · intro h
    exact ⟨u, h, rfl⟩
theorem lp_app (l : List Nat) (u : Nat) : LP (l ++ [u]) = LP l ++ [(u : Int)] := by simp [LP]
theorem dels_lp (u : Nat) (l : List Nat) : dels (u : Int) (LP l) = LP (l.filter fun x => decide (x ≠ u)) := by
  unfold dels LP
  induction l with
  | nil => rfl
  | cons x r ih =>
    rw [List.map_cons, List.filter_cons, List.filter_cons]
    by_cases h : x = u
    · subst h
      simp at ih ⊢
      exact ih
    · have h1 : ((x : Int) == (u : Int)) = false := by simp; omega
      rw [h1]
      simp only [Bool.not_false, if_true, decide_eq_true_eq, ne_eq, h, not_false_eq_true, List.map_cons, ih]
theorem costM_set {n u : Nat} {c : Int} {cost : Nat → Int} (hu : u < n) (hc : c < FAR) : setM (costM n cost) (u : Int) c = costM n (upz cost u c) := by
  funext x
  simp only [costM, setM]
  by_cases hx : x = (u : Int)
  · subst hx
    rw [if_pos rfl]
    simp only [Int.toNat_natCast, upz_same]
    rw [if_pos ⟨by omega, by omega, hc⟩]
  · rw [if_neg hx]
    by_cases hx0 : 0 ≤ x
    · rw [upz_other _ _ (by omega)]
    · rw [if_neg (fun h => hx0 h.1), if_neg (fun h => hx0 h.1)]
theorem predM_set {n u v : Nat} {pred : Nat → Int} (hu : u < n) : setM (predM n pred) (u : Int) (v : Int) = predM n (upz pred u (v : Int)) := by
  funext x
  simp only [predM, setM]
  by_cases hx : x = (u : Int)
  · subst hx
    rw [if_pos rfl]
    simp only [Int.toNat_natCast, upz_same]
    rw [if_pos ⟨by omega, by omega, by omega⟩]
  · rw [if_neg hx]
    by_cases hx0 : 0 ≤ x
    · rw [upz_other _ _ (by omega)]
    · rw [if_neg (fun h => hx0 h.1), if_neg (fun h => hx0 h.1)]
theorem costM_start {n v : Nat} (hv : v < n) : setM (fun _ => none) (v : Int) 0 = costM n (upz (fun _ => FAR) v 0) := by
  rw [← costM_set hv (by unfold FAR; omega)]
  congr 1
  funext x
  simp only [costM]
  rw [if_neg (fun h => by have := h.2.2; omega)]
theorem predM_start (n : Nat) : predM n (fun _ => -1) = fun _ => none := by
  funext x
  simp only [predM]
  rw [if_neg (fun h => by have := h.2.2; omega)]
theorem costM_look {n u : Nat} {cost : Nat → Int} (hu : u < n) : (costM n cost (u : Int) = some (cost u) ∧ cost u < FAR) ∨ (costM n cost (u : Int) = none ∧ ¬ cost u < FAR) := by
  by_cases h : cost u < FAR
  · exact .inl ⟨costM_at hu h, h⟩
  · exact .inr ⟨costM_no h, h⟩
/-- what the reference's search holds: the two maps, the two lists -/
structure TX (n mb pb k : Nat) (aw ao : Value) (ws : List Nat) (s : SR) (w1 wr : World) : Prop where
  cm : IMap wr mb k (costM n s.cost)
  pm : IMap wr pb k (predM n s.pred)
  wt : Own encI 1 3 wr w1.heap.size aw (LP ws)
  od : Own encI 1 3 wr w1.heap.size ao (LP s.ord)
  ap : ∀ j, ao.ownBlock = some j → aw.ownBlock ≠ some j
  keep : Keep (fun j => j = mb ∨ j = pb) w1 wr
  lt : mb < w1.heap.size ∧ pb < w1.heap.size ∧ mb ≠ pb
section
variable {n mb pb k k' : Nat} {aw ao aw' ao' : Value} {ws ws' : List Nat} {s : SR} {w1 wr w' : World}
end
end Go.Proofs.YtccailcjclbhlaaGreat
/-! Several texts in one: -/
/-! What the checks of a net return: net.Check, and the reference's Net. No condition but that the slice reads. -/
namespace Go.Proofs.YtccailcjclbhlaaGreat
open Go.RowKit
set_option linter.unusedSimpArgs false
set_option linter.unusedVariables false

def edErr (N : Int) (e : Ed) : Int := if e.u < 0 ∨ e.u ≥ N ∨ e.v < 0 ∨ e.v ≥ N then 1 else if e.c < -10000 ∨ e.c > 10000 then 4 else 0
def edsErr (N : Int) : List Ed → Int | [] => 0 | e :: r => if edErr N e ≠ 0 then edErr N e else edsErr N r
def netErr (N : Int) (es : List Ed) : Int := if N < 1 ∨ N > 64 then 1 else if es.length > 600 then 2 else edsErr N es
theorem edsErr_hit {N : Int} {es : List Ed} {k : Nat} (h : k < es.length) (x : Int) (hx : x ≠ 0) (he : edErr N es[k] = x) : edsErr N (es.drop k) = x := by
  rw [List.drop_eq_getElem_cons h, edsErr, he, if_pos hx]
theorem edsErr_miss {N : Int} {es : List Ed} {k : Nat} (h : k < es.length) (he : edErr N es[k] = 0) : edsErr N (es.drop k) = edsErr N (es.drop (k+1)) := by
  rw [List.drop_eq_getElem_cons h, edsErr, he, if_neg (by simp)]
theorem edsErr_all {N : Int} : ∀ {es : List Ed}, edsErr N es = 0 → ∀ e ∈ es, 0 ≤ e.u ∧ e.u < N ∧ 0 ≤ e.v ∧ e.v < N ∧ -10000 ≤ e.c ∧ e.c ≤ 10000
  | [], _, e, he => by cases he
  | x :: r, h, e, he => by
    rw [edsErr] at h
    split at h
    · omega
    · rename_i g
      have g : edErr N x = 0 := by omega
      cases he with
      | head => unfold edErr at g; split at g; · omega
                split at g <;> omega
      | tail _ hm => exact edsErr_all h e hm
theorem netErr_ok {N : Int} {es : List Ed} (h : netErr N es = 0) : 1 ≤ N ∧ N ≤ 64 ∧ es.length ≤ 600 ∧ ∀ e ∈ es, 0 ≤ e.u ∧ e.u < N ∧ 0 ≤ e.v ∧ e.v < N ∧ -10000 ≤ e.c ∧ e.c ≤ 10000 := by
  unfold netErr at h
  split at h
  · omega
  · split at h
    · omega
    · exact ⟨by omega, by omega, by omega, edsErr_all h⟩

theorem check_any (N : Int) (a : Option Addr) (cap : Nat) (es : List Ed) (w : World) (B : Nat) (hB : B ≤ w.heap.size) (hE : Row encE 3 w B a es) (hl : es.length ≤ 9223372036854775807) :
    Calls Tryz.prog 103 #[.agg #[.int .i64 N, .slice a es.length cap]] w fun e w' => e = .returned (.int .i64 (netErr N es)) ∧ Below w.heap.size w w' := by
  by_cases h1 : N < 1
  · have hr : Hid (netErr N es = 1) := by simp [Hid, netErr, h1]
    go_enter Tryz.func103, Tryz.ntmps103
    go_wp2
    go_ret
    exact ⟨ret_int hr.out.symm, (Below.refl _ _).alloc (Nat.le_refl _) _⟩
  by_cases h2 : 64 < N
  · have hr : Hid (netErr N es = 1) := by simp [Hid, netErr, h2]
    go_enter Tryz.func103, Tryz.ntmps103
    go_wp2
    go_ret
    exact ⟨ret_int hr.out.symm, (Below.refl _ _).alloc (Nat.le_refl _) _⟩
  by_cases h3 : 600 < (es.length : Int)
  · have hr : Hid (netErr N es = 2) := by simp only [Hid, netErr]; rw [if_neg (by omega), if_pos (by omega)]
    go_enter Tryz.func103, Tryz.ntmps103
    go_wp2
    go_ret
    exact ⟨ret_int hr.out.symm, (Below.refl _ _).alloc (Nat.le_refl _) _⟩
  have hr : Hid (netErr N es = edsErr N es) := by simp only [Hid, netErr]; rw [if_neg (by omega), if_neg (by omega)]
  go_enter Tryz.func103, Tryz.ntmps103
  go_wp2
  go_loopw [20] (fun i wr => ∃ k : Nat, k ≤ es.length ∧ i = .int .i64 k ∧ Hid (edsErr N es = edsErr N (es.drop k)) ∧ wr.cell? ⟨w.heap.size, 0, none⟩ = some (.int .i64 N) ∧ Below w.heap.size w wr ∧ w.heap.size < wr.heap.size) (fun i _ => es.length - (intOf i).toNat)
  case atStart => exact ⟨0, Nat.zero_le _, rfl, rfl, by simp, (Below.refl _ _).alloc (Nat.le_refl _) _, by simp⟩
  case round =>
    obtain ⟨k, hk, rfl, hrest, hN, hb, hsz⟩ := hrel
    by_cases hlt : k < es.length
    · obtain ⟨b, o, rfl, hbB, c0, c1, c2⟩ := hE.ed k hlt
      rw [← hb.cell (by simp; omega)] at c0 c1 c2
      go_wp2
      all_goals first
        | (go_ret
           refine ⟨ret_int ?_, hb.alloc (by omega) _⟩
           rw [hr.out, hrest.out]
           first
             | exact (edsErr_hit hlt 1 (by omega) (by simp only [edErr]; rw [if_pos (by omega)])).symm
             | exact (edsErr_hit hlt 4 (by omega) (by simp only [edErr]; rw [if_neg (by omega), if_pos (by omega)])).symm)
        | (go_roundw
           case rel => exact ⟨k + 1, by omega, by go_num, by rw [Hid, hrest.out]; exact edsErr_miss hlt (by simp only [edErr]; rw [if_neg (by omega), if_neg (by omega)]), cell_alloc hN hsz _, hb.alloc (by omega) _, lt_alloc hsz _⟩
           case measure => simp [intOf]; omega)
    · go_wp2
      go_ret
      refine ⟨ret_int ?_, hb⟩
      rw [hr.out, hrest.out, List.drop_eq_nil_of_le (by omega)]
      rfl

theorem rnet_any (N : Int) (a : Option Addr) (cap : Nat) (es : List Ed) (w : World) (B : Nat) (hB : B ≤ w.heap.size) (hE : Row encE 3 w B a es) (hl : es.length ≤ 9223372036854775807) :
    Calls Tryz.prog 67 #[.agg #[.int .i64 N, .slice a es.length cap]] w fun e w' => e = .returned (.int .i64 (netErr N es)) ∧ Below w.heap.size w w' := by
  by_cases h1 : N < 1
  · have hr : Hid (netErr N es = 1) := by simp [Hid, netErr, h1]
    go_enter Tryz.func67, Tryz.ntmps67
    go_wp2
    go_ret
    exact ⟨ret_int hr.out.symm, (Below.refl _ _).alloc (Nat.le_refl _) _⟩
  by_cases h2 : 64 < N
  · have hr : Hid (netErr N es = 1) := by simp [Hid, netErr, h2]
    go_enter Tryz.func67, Tryz.ntmps67
    go_wp2
    go_ret
    exact ⟨ret_int hr.out.symm, (Below.refl _ _).alloc (Nat.le_refl _) _⟩
  by_cases h3 : 600 < (es.length : Int)
  · have hr : Hid (netErr N es = 2) := by simp only [Hid, netErr]; rw [if_neg (by omega), if_pos (by omega)]
    go_enter Tryz.func67, Tryz.ntmps67
    go_wp2
    go_ret
    exact ⟨ret_int hr.out.symm, (Below.refl _ _).alloc (Nat.le_refl _) _⟩
  have hr : Hid (netErr N es = edsErr N es) := by simp only [Hid, netErr]; rw [if_neg (by omega), if_neg (by omega)]
  go_enter Tryz.func67, Tryz.ntmps67
  go_wp2
  go_loopw [20] (fun i wr => ∃ k : Nat, k ≤ es.length ∧ i = .int .i64 k ∧ Hid (edsErr N es = edsErr N (es.drop k)) ∧ wr.cell? ⟨w.heap.size, 0, none⟩ = some (.int .i64 N) ∧ Below w.heap.size w wr ∧ w.heap.size < wr.heap.size) (fun i _ => es.length - (intOf i).toNat)
  case atStart => exact ⟨0, Nat.zero_le _, rfl, rfl, by simp, (Below.refl _ _).alloc (Nat.le_refl _) _, by simp⟩
  case round =>
    obtain ⟨k, hk, rfl, hrest, hN, hb, hsz⟩ := hrel
    by_cases hlt : k < es.length
    · obtain ⟨b, o, rfl, hbB, c0, c1, c2⟩ := hE.ed k hlt
      rw [← hb.cell (by simp; omega)] at c0 c1 c2
      go_wp2
      all_goals first
        | (go_ret
           refine ⟨ret_int ?_, hb.alloc (by omega) _⟩
           rw [hr.out, hrest.out]
           first
             | exact (edsErr_hit hlt 1 (by omega) (by simp only [edErr]; rw [if_pos (by omega)])).symm
             | exact (edsErr_hit hlt 4 (by omega) (by simp only [edErr]; rw [if_neg (by omega), if_pos (by omega)])).symm)
        | (go_roundw
           case rel => exact ⟨k + 1, by omega, by go_num, by rw [Hid, hrest.out]; exact edsErr_miss hlt (by simp only [edErr]; rw [if_neg (by omega), if_neg (by omega)]), cell_alloc hN hsz _, hb.alloc (by omega) _, lt_alloc hsz _⟩
           case measure => simp [intOf]; omega)
    · go_wp2
      go_ret
      refine ⟨ret_int ?_, hb⟩
      rw [hr.out, hrest.out, List.drop_eq_nil_of_le (by omega)]
      rfl

end Go.Proofs.YtccailcjclbhlaaGreat

/-! What net.Pos and the reference's Pos return: is a net right, and are its costs above 0? No condition but that the slice reads. -/
namespace Go.Proofs.YtccailcjclbhlaaGreat
open Go.RowKit
set_option linter.unusedSimpArgs false
set_option linter.unusedVariables false

def lowCost : List Ed → Bool | [] => false | e :: r => if e.c < 1 then true else lowCost r
def posErr (N : Int) (es : List Ed) : Int := if netErr N es ≠ 0 then netErr N es else if lowCost es then 4 else 0
theorem low_hit {es : List Ed} {k : Nat} (h : k < es.length) (hc : es[k].c < 1) : lowCost (es.drop k) = true := by
  rw [List.drop_eq_getElem_cons h, lowCost, if_pos hc]
theorem low_miss {es : List Ed} {k : Nat} (h : k < es.length) (hc : ¬ es[k].c < 1) : lowCost (es.drop k) = lowCost (es.drop (k + 1)) := by
  rw [List.drop_eq_getElem_cons h, lowCost, if_neg hc]
theorem low_no : ∀ {es : List Ed}, lowCost es = false → ∀ e ∈ es, 1 ≤ e.c
  | [], _, e, he => by cases he
  | x :: r, h, e, he => by
    rw [lowCost] at h
    split at h
    · cases h
    · cases he with
      | head => omega
      | tail _ hm => exact low_no h e hm
theorem posErr_ok {N : Int} {es : List Ed} (h : posErr N es = 0) : netErr N es = 0 ∧ ∀ e ∈ es, 1 ≤ e.c := by
  unfold posErr at h
  split at h
  · omega
  · split at h
    · omega
    · exact ⟨by omega, low_no (by simpa using ‹¬ lowCost es = true›)⟩

theorem pos_any (N : Int) (a : Option Addr) (cap : Nat) (es : List Ed) (w : World) (B : Nat) (hB : B ≤ w.heap.size) (hE : Row encE 3 w B a es) (hl : es.length ≤ 9223372036854775807) :
    Calls Tryz.prog 95 #[.agg #[.int .i64 N, .slice a es.length cap]] w fun e w' => e = .returned (.int .i64 (posErr N es)) ∧ Below w.heap.size w w' := by
  have hE := hide hE
  by_cases h0 : netErr N es = 0
  · obtain ⟨n1, n2, n3, _⟩ := netErr_ok h0
    have hC := fun w hB hE => check_any N a cap es w B hB hE hl
    rw [h0] at hC
    have hr := hide (show posErr N es = if lowCost es then 4 else 0 by simp [posErr, h0])
    replace hC := hide hC
    clear h0
    go_enter Tryz.func95, Tryz.ntmps95
    go_wp2_with fail
    refine (hC.out _ (by simp; omega) (hE.out.below (bel : Below w.heap.size w _) hB)).mono ?_
    rintro e w1 ⟨rfl, hb1⟩
    obtain ⟨hc1, hf1⟩ := bcell hb1; have hz1 : w.heap.size < w1.heap.size := (by have := hb1.size; (try simp at this); omega)
    have hb : Below w.heap.size w w1 := bel
    go_wp2
    go_loopw [14] (fun i wr => ∃ k : Nat, k ≤ es.length ∧ i = .int .i64 k ∧ Hid (lowCost es = lowCost (es.drop k)) ∧ Below w.heap.size w wr) (fun i _ => es.length - (intOf i).toNat)
    case atStart => exact ⟨0, Nat.zero_le _, rfl, rfl, hb⟩
    case round =>
      clear hc1 hf1 hz1 hb1 hb
      obtain ⟨k, hk, rfl, hrest, hb⟩ := hrel
      have hsz := hb.size
      by_cases hlt : k < es.length
      · obtain ⟨b, o, rfl, hbB, c0, c1, c2⟩ := hE.out.ed k hlt
        rw [← hb.cell (by simp; omega)] at c0 c1 c2
        go_wp2
        all_goals first
          | (go_ret
             refine ⟨ret_int ?_, up_alloc hb hsz⟩
             rw [hr.out, hrest.out, low_hit hlt (by omega)]
             rfl)
          | (go_roundw
             case rel => exact ⟨k + 1, by omega, by go_num, by rw [Hid, hrest.out]; exact low_miss hlt (by omega), up_alloc hb hsz⟩
             case measure => simp [intOf]; omega)
      · go_wp2
        go_ret
        refine ⟨ret_int ?_, hb⟩
        rw [hr.out, hrest.out, List.drop_eq_nil_of_le (by omega)]
        rfl
  · have q0 : (netErr N es != 0) = true := by simp [h0]
    have hr := hide (show posErr N es = netErr N es by simp [posErr, h0])
    have hC := hide (fun w hB hE => check_any N a cap es w B hB hE hl)
    clear h0
    go_enter Tryz.func95, Tryz.ntmps95
    go_wp2_with fail
    refine (hC.out _ (by simp; omega) (hE.out.below (bel : Below w.heap.size w _) hB)).mono ?_
    rintro e w1 ⟨rfl, hb1⟩
    go_wp2
    go_ret
    exact ⟨ret_int hr.out.symm, bel⟩

theorem rpos1_any (e : Ed) (w : World) : Calls Tryz.prog 69 #[.agg #[.int .i64 e.u, .int .i64 e.v, .int .i64 e.c]] w fun e' w' => e' = .returned (.bool (decide (e.c < 1))) ∧ Below w.heap.size w w' := by
  have hd : decide (e.c ≤ 0) = decide (e.c < 1) := by rw [decide_eq_decide]; omega
  replace hd := hide hd
  go_enter Tryz.func69, Tryz.ntmps69
  go_wp2
  go_ret
  exact ⟨ret_bool hd.out, bel⟩

def posIdx (es : List Ed) (k : Nat) : Int := match es with | [] => -1 | e :: r => if e.c < 1 then (k : Int) else posIdx r (k + 1)
theorem pidx_hit {es : List Ed} {k : Nat} (h : k < es.length) (hc : es[k].c < 1) : posIdx (es.drop k) k = k := by
  rw [List.drop_eq_getElem_cons h, posIdx, if_pos hc]
theorem pidx_miss {es : List Ed} {k : Nat} (h : k < es.length) (hc : ¬ es[k].c < 1) : posIdx (es.drop k) k = posIdx (es.drop (k + 1)) (k + 1) := by
  rw [List.drop_eq_getElem_cons h, posIdx, if_neg hc]
theorem pidx_low : ∀ (es : List Ed) (k : Nat), (decide (0 ≤ posIdx es k)) = lowCost es
  | [], _ => rfl
  | e :: r, k => by
    rw [posIdx, lowCost]
    split
    · simp
    · exact pidx_low r (k + 1)
theorem ixfunc_any (a : Option Addr) (cap : Nat) (es : List Ed) (w : World) (B : Nat) (hB : B ≤ w.heap.size) (hE : Row encE 3 w B a es) (hl : es.length ≤ 9223372036854775807) :
    Calls Tryz.prog 86 #[.slice a es.length cap, .func (.func 69) #[] #[]] w fun e w' => e = .returned (.int .i64 (posIdx es 0)) ∧ Below w.heap.size w w' := by
  have hE := hide hE
  go_enter Tryz.func86, Tryz.ntmps86
  go_wp2
  go_loopw [8] (fun i wr => ∃ k : Nat, k ≤ es.length ∧ i = .int .i64 k ∧ Hid (posIdx es 0 = posIdx (es.drop k) k) ∧ Below w.heap.size w wr) (fun i _ => es.length - (intOf i).toNat)
  case atStart => exact ⟨0, Nat.zero_le _, rfl, rfl, Below.refl _ _⟩
  case round =>
    obtain ⟨k, hk, rfl, hrest, hb⟩ := hrel
    by_cases hlt : k < es.length
    · obtain ⟨b, o, rfl, hbB, c0, c1, c2⟩ := hE.out.ed k hlt
      rw [← hb.cell (by simp; omega)] at c0 c1 c2
      by_cases hc : es[k].c < 1
      · have hR := fun w => rpos1_any es[k] w
        have hd : decide (es[k].c < 1) = true := by simpa using hc
        rw [hd] at hR
        replace hR := hide hR
        have hc := hide hc
        go_wp2_with fail
        refine (hR.out _).mono ?_
        rintro e w1 ⟨rfl, hb1⟩
        go_wp2
        go_ret
        refine ⟨ret_int ?_, hb.trans (hb1.mono hb.size)⟩
        rw [hrest.out, pidx_hit hlt hc.out]
      · have hR := fun w => rpos1_any es[k] w
        have hd : decide (es[k].c < 1) = false := by simpa using hc
        rw [hd] at hR
        replace hR := hide hR
        have hc := hide hc
        go_wp2_with fail
        refine (hR.out _).mono ?_
        rintro e w1 ⟨rfl, hb1⟩
        go_wp2
        go_roundw
        case rel => exact ⟨k + 1, by omega, by go_num, by rw [Hid, hrest.out]; exact pidx_miss hlt (by have := hc.out; omega), hb.trans (hb1.mono hb.size)⟩
        case measure => simp [intOf]; omega
    · go_wp2
      go_ret
      refine ⟨ret_int ?_, hb⟩
      rw [hrest.out, List.drop_eq_nil_of_le (by omega)]
      rfl

theorem cfunc_any (a : Option Addr) (cap : Nat) (es : List Ed) (w : World) (B : Nat) (hB : B ≤ w.heap.size) (hE : Row encE 3 w B a es) (hl : es.length ≤ 9223372036854775807) :
    Calls Tryz.prog 68 #[.slice a es.length cap, .func (.func 69) #[] #[]] w fun e w' => e = .returned (.bool (lowCost es)) ∧ Below w.heap.size w w' := by
  have hl2 := hide (pidx_low es 0)
  have hE := hide hE
  go_enter Tryz.func68, Tryz.ntmps68
  go_wp2_with fail
  refine (ixfunc_any a cap es w B hB hE.out hl).mono ?_
  rintro e w1 ⟨rfl, hb1⟩
  go_wp2
  go_ret
  exact ⟨ret_bool hl2.out, hb1⟩

theorem rpos_any (N : Int) (a : Option Addr) (cap : Nat) (es : List Ed) (w : World) (B : Nat) (hB : B ≤ w.heap.size) (hE : Row encE 3 w B a es) (hl : es.length ≤ 9223372036854775807) :
    Calls Tryz.prog 45 #[.agg #[.int .i64 N, .slice a es.length cap]] w fun e w' => e = .returned (.int .i64 (posErr N es)) ∧ Below w.heap.size w w' := by
  have hE := hide hE
  have hC := fun w hB hE => rnet_any N a cap es w B hB hE hl
  by_cases h0 : netErr N es = 0
  · rw [h0] at hC
    have hr := hide (show posErr N es = if lowCost es then 4 else 0 by simp [posErr, h0])
    replace hC := hide hC
    clear h0
    have hK := fun w hB hE => cfunc_any a cap es w B hB hE hl
    by_cases hb : lowCost es = true
    · rw [hb] at hK
      replace hK := hide hK
      replace hb := hide hb
      go_enter Tryz.func45, Tryz.ntmps45
      go_wp2_with fail
      refine (hC.out _ (by simp; omega) (hE.out.below (bel : Below w.heap.size w _) hB)).mono ?_
      rintro e w1 ⟨rfl, hb1⟩
      obtain ⟨hc1, hf1⟩ := bcell hb1; have hz1 : w.heap.size < w1.heap.size := (by have := hb1.size; (try simp at this); omega)
      go_wp2_with fail
      refine (hK.out _ (by omega) (hE.out.below (bel : Below w.heap.size w _) hB)).mono ?_
      rintro e w2 ⟨rfl, hb2⟩
      go_wp2
      go_ret
      exact ⟨ret_int (by rw [hr.out, hb.out]; rfl), bel⟩
    · rw [Bool.not_eq_true] at hb
      rw [hb] at hK
      replace hK := hide hK
      replace hb := hide hb
      go_enter Tryz.func45, Tryz.ntmps45
      go_wp2_with fail
      refine (hC.out _ (by simp; omega) (hE.out.below (bel : Below w.heap.size w _) hB)).mono ?_
      rintro e w1 ⟨rfl, hb1⟩
      obtain ⟨hc1, hf1⟩ := bcell hb1; have hz1 : w.heap.size < w1.heap.size := (by have := hb1.size; (try simp at this); omega)
      go_wp2_with fail
      refine (hK.out _ (by omega) (hE.out.below (bel : Below w.heap.size w _) hB)).mono ?_
      rintro e w2 ⟨rfl, hb2⟩
      go_wp2
      go_ret
      exact ⟨ret_int (by rw [hr.out, hb.out]; rfl), bel⟩
  · have q0 : (netErr N es != 0) = true := by simp [h0]
    have hr := hide (show posErr N es = netErr N es by simp [posErr, h0])
    replace hC := hide hC
    clear h0
    go_enter Tryz.func45, Tryz.ntmps45
    go_wp2_with fail
    refine (hC.out _ (by simp; omega) (hE.out.below (bel : Below w.heap.size w _) hB)).mono ?_
    rintro e w1 ⟨rfl, hb1⟩
    go_wp2
    go_ret
    exact ⟨ret_int hr.out.symm, bel⟩

end Go.Proofs.YtccailcjclbhlaaGreat

/-! What dijk.Look and the reference's Look return. Condition: the slices read. -/
namespace Go.Proofs.YtccailcjclbhlaaGreat
open Go.RowKit
set_option linter.unusedSimpArgs false
set_option linter.unusedVariables false
def plErr (N : Int) : List Int → Int | [] => 0 | x :: r => if x < 0 ∨ N ≤ x then 1 else plErr N r
def lookErr (N : Int) (es : List Ed) (ps : List Int) : Int := if posErr N es ≠ 0 then posErr N es else plErr N ps
theorem pl_hit {N : Int} {ps : List Int} {k : Nat} (h : k < ps.length) (q : ps[k] < 0 ∨ N ≤ ps[k]) : plErr N (ps.drop k) = 1 := by
  rw [List.drop_eq_getElem_cons h, plErr, if_pos q]
theorem pl_miss {N : Int} {ps : List Int} {k : Nat} (h : k < ps.length) (q : ¬ (ps[k] < 0 ∨ N ≤ ps[k])) : plErr N (ps.drop k) = plErr N (ps.drop (k + 1)) := by
  rw [List.drop_eq_getElem_cons h, plErr, if_neg q]
theorem pl_all {N : Int} : ∀ {ps : List Int}, plErr N ps = 0 → ∀ x ∈ ps, 0 ≤ x ∧ x < N
  | [], _, x, hx => by cases hx
  | y :: r, h, x, hx => by
    unfold plErr at h
    split at h
    · omega
    · rename_i q
      rcases List.mem_cons.1 hx with rfl | hx
      · omega
      · exact pl_all h x hx
theorem look_ok {N : Int} {es : List Ed} {ps : List Int} (h : lookErr N es ps = 0) : posErr N es = 0 ∧ ∀ x ∈ ps, 0 ≤ x ∧ x < N := by
  unfold lookErr at h
  by_cases h0 : posErr N es = 0
  · rw [if_neg (by simp [h0])] at h
    exact ⟨h0, pl_all h⟩
  · rw [if_pos h0] at h; exact absurd h h0
theorem look_any (N : Int) (a : Option Addr) (cap : Nat) (es : List Ed) (a1 : Option Addr) (c1 k1 : Nat) (ps : List Int) (hk : ps.length = k1) (w : World) (B : Nat) (hB : B ≤ w.heap.size) (hE : Row encE 3 w B a es) (hP : Row encI 1 w B a1 ps) (hl : es.length ≤ 9223372036854775807) (hl2 : k1 ≤ 9223372036854775807) :
    Calls Tryz.prog 83 #[.agg #[.int .i64 N, .slice a es.length cap], .slice a1 k1 c1] w fun e w' => e = .returned (.int .i64 (lookErr N es ps)) ∧ Below w.heap.size w w' := by
  subst hk
  by_cases h0 : posErr N es = 0
  · have hr : Hid (lookErr N es ps = plErr N ps) := by simp only [Hid, lookErr]; rw [if_neg (by simp [h0])]
    have hC := hide (fun w hB hE => by have := pos_any N a cap es w B hB hE hl; rw [h0] at this; exact this)
    replace hE := hide hE
    replace hP := hide hP
    clear h0
    go_enter Tryz.func83, Tryz.ntmps83
    go_wp2_with fail
    refine (hC.out _ (by simp; omega) (hE.out.below (bel : Below w.heap.size w _) hB)).mono ?_
    rintro e w1 ⟨rfl, hb1⟩
    have hz0 : w.heap.size < w1.heap.size := by have := hb1.size; simp at this; omega
    have kN : w1.cell? ⟨w.heap.size, 0, none⟩ = some (.int .i64 N) := cu_below hb1 (by simp [go_sem]) (by simp)
    have hbw := hide (unalloc (hb1.mono (by simp)) (Nat.le_refl _) : Below w.heap.size w w1)
    clear hb1
    go_wp2
    go_loopw [7, 15] (fun _ i wr => ∃ k : Nat, k ≤ ps.length ∧ i = .int .i64 k ∧ Hid (plErr N ps = plErr N (ps.drop k)) ∧ Hid (Below w1.heap.size w1 wr)) (fun _ i _ => ps.length - (intOf i).toNat)
    case atStart => exact ⟨0, Nat.zero_le _, rfl, rfl, Below.refl _ _⟩
    case round =>
      obtain ⟨k, hk, rfl, hrest, hb⟩ := hrel
      have k0 := (hb.out.cell (cell_lt kN)).trans kN
      have hzr := hb.out.size
      have hbr := hide (hbw.out.trans (hb.out.mono hbw.out.size))
      clear kN
      by_cases hlt : k < ps.length
      · obtain ⟨b, o, rfl, hbB, e0⟩ := hP.out.int k hlt
        have e1 := cu_below hbr.out e0 (by simp; omega)
        have hbl := cell_lt e1
        clear e0
        obtain ⟨x, hx⟩ : ∃ x, x = ps[k] := ⟨_, rfl⟩
        rw [← hx] at e1
        replace hx := hide hx
        by_cases q : x < 0 ∨ N ≤ x
        · have hq := hide (pl_hit hlt (by rw [← hx.out]; exact q))
          have q2 : x < 0 ∨ (0 ≤ x ∧ N ≤ x) := by omega
          clear q
          rcases q2 with q | ⟨q0, q⟩
          all_goals
            go_wp2
            go_ret
            exact ⟨ret_int (by rw [hr.out, hrest.out, hq.out]), hbr.out⟩
        · have hq := hide (pl_miss hlt (by rw [← hx.out]; exact q))
          have q1 : 0 ≤ x := by omega
          have q2 : x < N := by omega
          clear q
          go_wp2
          go_roundw
          case rel => exact ⟨k + 1, by omega, by go_num, hide (by rw [hrest.out, hq.out]), hb⟩
          case measure => simp [intOf]; omega
      · go_wp2
        go_ret
        refine ⟨ret_int ?_, hbr.out⟩
        rw [hr.out, hrest.out, List.drop_eq_nil_of_le (by omega)]
        rfl
  · have hr : Hid (lookErr N es ps = posErr N es) := by simp only [Hid, lookErr]; rw [if_pos h0]
    have q0 : (posErr N es != 0) = true := by simp [h0]
    have hC := hide (fun w hB hE => pos_any N a cap es w B hB hE hl)
    replace hE := hide hE
    replace hP := hide hP
    clear h0
    go_enter Tryz.func83, Tryz.ntmps83
    go_wp2_with fail
    refine (hC.out _ (by simp; omega) (hE.out.below (bel : Below w.heap.size w _) hB)).mono ?_
    rintro e w1 ⟨rfl, hb1⟩
    go_wp2
    go_ret
    exact ⟨ret_int hr.out.symm, bel⟩
theorem rlook_any (N : Int) (a : Option Addr) (cap : Nat) (es : List Ed) (a1 : Option Addr) (c1 k1 : Nat) (ps : List Int) (hk : ps.length = k1) (w : World) (B : Nat) (hB : B ≤ w.heap.size) (hE : Row encE 3 w B a es) (hP : Row encI 1 w B a1 ps) (hl : es.length ≤ 9223372036854775807) (hl2 : k1 ≤ 9223372036854775807) :
    Calls Tryz.prog 27 #[.agg #[.int .i64 N, .slice a es.length cap], .slice a1 k1 c1] w fun e w' => e = .returned (.int .i64 (lookErr N es ps)) ∧ Below w.heap.size w w' := by
  subst hk
  by_cases h0 : posErr N es = 0
  · have hr : Hid (lookErr N es ps = plErr N ps) := by simp only [Hid, lookErr]; rw [if_neg (by simp [h0])]
    have hC := hide (fun w hB hE => by have := rpos_any N a cap es w B hB hE hl; rw [h0] at this; exact this)
    replace hE := hide hE
    replace hP := hide hP
    clear h0
    go_enter Tryz.func27, Tryz.ntmps27
    go_wp2_with fail
    refine (hC.out _ (by simp; omega) (hE.out.below (bel : Below w.heap.size w _) hB)).mono ?_
    rintro e w1 ⟨rfl, hb1⟩
    have hz0 : w.heap.size < w1.heap.size := by have := hb1.size; simp at this; omega
    have kN : w1.cell? ⟨w.heap.size, 0, none⟩ = some (.int .i64 N) := cu_below hb1 (by simp [go_sem]) (by simp)
    have hbw := hide (unalloc (hb1.mono (by simp)) (Nat.le_refl _) : Below w.heap.size w w1)
    clear hb1
    go_wp2
    go_loopw [7, 15] (fun _ i wr => ∃ k : Nat, k ≤ ps.length ∧ i = .int .i64 k ∧ Hid (plErr N ps = plErr N (ps.drop k)) ∧ Hid (Below w1.heap.size w1 wr)) (fun _ i _ => ps.length - (intOf i).toNat)
    case atStart => exact ⟨0, Nat.zero_le _, rfl, rfl, Below.refl _ _⟩
    case round =>
      obtain ⟨k, hk, rfl, hrest, hb⟩ := hrel
      have k0 := (hb.out.cell (cell_lt kN)).trans kN
      have hzr := hb.out.size
      have hbr := hide (hbw.out.trans (hb.out.mono hbw.out.size))
      clear kN
      by_cases hlt : k < ps.length
      · obtain ⟨b, o, rfl, hbB, e0⟩ := hP.out.int k hlt
        have e1 := cu_below hbr.out e0 (by simp; omega)
        have hbl := cell_lt e1
        clear e0
        obtain ⟨x, hx⟩ : ∃ x, x = ps[k] := ⟨_, rfl⟩
        rw [← hx] at e1
        replace hx := hide hx
        by_cases q : x < 0 ∨ N ≤ x
        · have hq := hide (pl_hit hlt (by rw [← hx.out]; exact q))
          have q2 : x < 0 ∨ (0 ≤ x ∧ N ≤ x) := by omega
          clear q
          rcases q2 with q | ⟨q0, q⟩
          all_goals
            go_wp2
            go_ret
            exact ⟨ret_int (by rw [hr.out, hrest.out, hq.out]), hbr.out⟩
        · have hq := hide (pl_miss hlt (by rw [← hx.out]; exact q))
          have q1 : 0 ≤ x := by omega
          have q2 : x < N := by omega
          clear q
          go_wp2
          go_roundw
          case rel => exact ⟨k + 1, by omega, by go_num, hide (by rw [hrest.out, hq.out]), hb⟩
          case measure => simp [intOf]; omega
      · go_wp2
        go_ret
        refine ⟨ret_int ?_, hbr.out⟩
        rw [hr.out, hrest.out, List.drop_eq_nil_of_le (by omega)]
        rfl
  · have hr : Hid (lookErr N es ps = posErr N es) := by simp only [Hid, lookErr]; rw [if_pos h0]
    have q0 : (posErr N es != 0) = true := by simp [h0]
    have hC := hide (fun w hB hE => rpos_any N a cap es w B hB hE hl)
    replace hE := hide hE
    replace hP := hide hP
    clear h0
    go_enter Tryz.func27, Tryz.ntmps27
    go_wp2_with fail
    refine (hC.out _ (by simp; omega) (hE.out.below (bel : Below w.heap.size w _) hB)).mono ?_
    rintro e w1 ⟨rfl, hb1⟩
    go_wp2
    go_ret
    exact ⟨ret_int hr.out.symm, bel⟩
end Go.Proofs.YtccailcjclbhlaaGreat
