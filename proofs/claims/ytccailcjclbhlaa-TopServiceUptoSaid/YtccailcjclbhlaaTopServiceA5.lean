/-
  A part of the proof of ServePlays: PushAll RowS RBack StarW NetL WcA StarX QuietH ROut
-/
import Derived.Test.YtccailcjclbhlaaTopServiceA1
import Derived.Deep.RegionLaw
import Derived.Test.YtccailcjclbhlaaTopServiceA4
import Derived.Test.YtccailcjclbhlaaTopServiceA3
import Derived.Deep.LoopGhost
import Derived.Test.YtccailcjclbhlaaTopServiceA2
import Derived.BigQuiet
import Derived.Deep.QuietTactic
import Derived.WalkSpells
import Derived.WalkLawsBesides
import Derived.LoopTactic
import Derived.Deep.RegionHeld3
import Derived.Deep.AppendLies
/-! append of a whole slice to a slice of the call's own, at a step of a region that draws its order. Conditions: bounds on the lengths. -/
namespace Go.Proofs.Ytccailcjclbhlaa
open Go.RowKit

/-- append of a slice that is none, whatever room it tells -/
theorem run_append_none_any {P : Program} {w : World} (base : Nat) (t ty e : TypeId) (i : TypeInfo) (size : Nat) (ht : P.underlying t = some (.slice e)) (hi : P.info? e = some i)
    (v : Value) (n : Nat) (xs : List Value) (hown : w.ownsRow base e size v n xs) (c : Nat) : (Builtin.append_ #[t, t] ty #[v, .slice none 0 c]).run P w = .ok v w := by
  rcases hown.2 with ⟨rfl, rfl⟩ | ⟨g, cap, cur, rfl, _, _, hnc, _⟩
  · simp [Builtin.append_, run_underlying ht, sizeOf, typeInfo, hi, Builtin.lenOf, Builtin.firstCells]
  · simp [Builtin.append_, run_underlying ht, sizeOf, typeInfo, hi, Builtin.lenOf, Builtin.firstCells, hnc, storeCells]
theorem wp_pushAll {α : Type} {enc : α → List Value} {sz : Nat} {e : TypeId} {w : World} {base : Nat} {v : Value} {xs : List α} {P : Program} {o : Oper} {a : Act} {K : Act → World → Prop} {Q : Exit → Act → World → Prop} (s x : Operand) (t : TypeId)
    (ho : o.op = .call { callee := .builtin .append, args := #[s, x], argTypes := #[t, t] })
    (z : Value) (bytes : Nat) (ht : P.underlying t = some (.slice e)) (hinf : (P.info? e).map (fun i => (i.zero, i.size, i.bytes)) = some (some z, sz, bytes)) (hzs : z.cells.size = sz) (hsz : 0 < sz)
    (hlen : ∀ x, (enc x).length = sz) (hone : ∀ x, ∀ u ∈ enc x, u.oneCell' = true)
    (n : Nat) (hn : xs.length = n) (hs : a.eval s = v) (own : Own enc sz e w base v xs) (B : Nat) (ad : Option Addr) (m c : Nat) (ys : List α) (hm : ys.length = m) (hx : a.eval x = .slice ad m c) (hrow : Row enc sz w B ad ys)
    (hbound : (n + m) * bytes ≤ 140737488355328) (hmax : n + m ≤ maxLen) (hbase : base ≤ w.heap.size)
    (h : ∀ av c' w', Own enc sz e w' base (.slice av (n + m) c') (xs ++ ys) → Below base w w' → w.grownBy w' v.ownBlock → K (a.put o.dst (.slice av (n + m) c')) w') : o.wp P a w K Q := by
  subst hn hm
  obtain ⟨i0, hi, hz0, hz1, hz2⟩ := info_parts hinf
  cases ad with
  | none =>
    have hys : ys = [] := by
      cases ys with
      | nil => rfl
      | cons y r => obtain ⟨b, o, h1, _⟩ := hrow 0 (by simp); cases h1
    subst hys
    obtain ⟨av, c', rfl⟩ := own.shape rfl
    have hrun := run_append_none_any (P := P) (w := w) base t o.type e i0 sz ht hi _ xs.length (xs.flatMap enc) own c
    have hx' : a.eval x = .slice none 0 c := by simpa using hx
    unfold Oper.wp execOp
    simp only [ho, resolve, invoke, builtin, Sem.run_bind, Sem.run_pure, Result.andThen_ok, List.map_toArray, List.map_cons, List.map_nil, hs, hx', hrun]
    exact h av c' w (by simpa using own) (Below.refl _ _) ⟨rfl, rfl, rfl, Nat.le_refl _, fun _ _ _ => rfl⟩
  | some ad =>
    have hfl : (ys.flatMap enc).length = ys.length * sz := by
      clear hrow hx h hbound hmax
      induction ys with
      | nil => simp
      | cons x r ih => simp only [List.flatMap_cons, List.length_append, ih, hlen, List.length_cons, Nat.succ_mul]; omega
    refine wp_append_own (w := w) s x t ho base e i0 z sz bytes ht hi hz0 hz1 hz2 hzs hsz v xs.length (xs.flatMap enc) hs own ad ys.length c (ys.flatMap enc) hx hfl (hrow.flat hlen hsz ad rfl) ?_ hmax hbound hbase ?_
    · intro u hu
      obtain ⟨y, _, hy⟩ := List.mem_flatMap.1 hu
      exact hone y u hy
    intro v' w' own' hg _
    have own2 : Own enc sz e w' base v' (xs ++ ys) := by
      unfold Own
      rw [List.length_append, List.flatMap_append]
      exact own'
    obtain ⟨av, c', rfl⟩ := own2.shape (n := xs.length + ys.length) (by simp)
    exact h av c' w' own2 ((Below.refl _ _).grown hg hbase (fun k hk => (own.block_lt k hk).1)) hg

theorem step_pushAll {α : Type} {enc : α → List Value} {sz : Nat} {e : TypeId} {w : World} {base : Nat} {v : Value} {xs : List α} {P : Program} {ops : Array Oper} {o : Oper} {a : Act} {K : Act → World → Prop} {Q : Exit → Act → World → Prop} {E : Prop} (hgd : o.guard = none) (s x : Operand) (t : TypeId)
    (ho : o.op = .call { callee := .builtin .append, args := #[s, x], argTypes := #[t, t] })
    (z : Value) (bytes : Nat) (ht : P.underlying t = some (.slice e)) (hinf : (P.info? e).map (fun i => (i.zero, i.size, i.bytes)) = some (some z, sz, bytes)) (hzs : z.cells.size = sz) (hsz : 0 < sz)
    (hlen : ∀ x, (enc x).length = sz) (hone : ∀ x, ∀ u ∈ enc x, u.oneCell' = true)
    (n : Nat) (hn : xs.length = n) (hs : a.eval s = v) (own : Own enc sz e w base v xs) (B : Nat) (ad : Option Addr) (m c : Nat) (ys : List α) (hm : ys.length = m) (hx : a.eval x = .slice ad m c) (hrow : Row enc sz w B ad ys)
    (hbound : (n + m) * bytes ≤ 140737488355328) (hmax : n + m ≤ maxLen) (hbase : base ≤ w.heap.size)
    (h : ∀ av c' w', Own enc sz e w' base (.slice av (n + m) c') (xs ++ ys) → Below base w w' → w.grownBy w' v.ownBlock → K (a.put o.dst (.slice av (n + m) c')) w') :
    if Region.wanted o (yielded ops a.tmps) = true then Oper.wp P o a w K Q else E := by
  have hw : Region.wanted o (yielded ops a.tmps) = true := by simp [Region.wanted, hgd]
  rw [if_pos hw]
  exact wp_pushAll s x t ho z bytes ht hinf hzs hsz hlen hone n hn hs own B ad m c ys hm hx hrow hbound hmax hbase h
/-- at the list of a plain region's operations -/
theorem wpList_all {α : Type} {enc : α → List Value} {sz : Nat} {e : TypeId} {w : World} {base : Nat} {v : Value} {xs : List α} {P : Program} {ops : Array Oper} {rest : List Oper} {o : Oper} {a : Act} {Q : Exit → Act → World → Prop} (hgd : o.guard = none) (s x : Operand) (t : TypeId)
    (ho : o.op = .call { callee := .builtin .append, args := #[s, x], argTypes := #[t, t] })
    (z : Value) (bytes : Nat) (ht : P.underlying t = some (.slice e)) (hinf : (P.info? e).map (fun i => (i.zero, i.size, i.bytes)) = some (some z, sz, bytes)) (hzs : z.cells.size = sz) (hsz : 0 < sz)
    (hlen : ∀ x, (enc x).length = sz) (hone : ∀ x, ∀ u ∈ enc x, u.oneCell' = true)
    (n : Nat) (hn : xs.length = n) (hs : a.eval s = v) (own : Own enc sz e w base v xs) (B : Nat) (ad : Option Addr) (m c : Nat) (ys : List α) (hm : ys.length = m) (hx : a.eval x = .slice ad m c) (hrow : Row enc sz w B ad ys)
    (hbound : (n + m) * bytes ≤ 140737488355328) (hmax : n + m ≤ maxLen) (hbase : base ≤ w.heap.size)
    (h : ∀ av c' w', Own enc sz e w' base (.slice av (n + m) c') (xs ++ ys) → Below base w w' → w.grownBy w' v.ownBlock → wpList P ops Q rest (a.put o.dst (.slice av (n + m) c')) w') : wpList P ops Q (o :: rest) a w :=
  wpList_plain hgd fun _ hK => wp_pushAll s x t ho z bytes ht hinf hzs hsz hlen hone n hn hs own B ad m c ys hm hx hrow hbound hmax hbase fun av c' w' h1 h2 h3 => hK _ _ (h av c' w' h1 h2 h3)
end Go.Proofs.Ytccailcjclbhlaa
/-! One number, two numbers in a row; a slice of one number, just built. No condition. -/
namespace Go.Proofs.Ytccailcjclbhlaa
open Go.RowKit
set_option linter.unusedSimpArgs false
set_option linter.unusedVariables false
theorem row1 {w : World} {b : Nat} {x : Int} (h : w.cell? ⟨b, 0, none⟩ = some (.int .i64 x)) : Row encI 1 w w.heap.size (some ⟨b, 0, none⟩) [x] := by
  intro i hi
  refine ⟨b, 0, rfl, cell_lt h, fun j u hu => ?_⟩
  have : i = 0 := by simpa using hi
  subst this
  match j, hu with
  | 0, hu => simp [encI] at hu; subst hu; simpa using h
theorem row2 {w : World} {b : Nat} {x y : Int} (h : w.cell? ⟨b, 0, none⟩ = some (.int .i64 x)) (h2 : w.cell? ⟨b, 1, none⟩ = some (.int .i64 y)) : Row encI 1 w w.heap.size (some ⟨b, 0, none⟩) [x, y] := by
  intro i hi
  refine ⟨b, 0, rfl, cell_lt h, fun j u hu => ?_⟩
  match i, hi, j, hu with
  | 0, _, 0, hu => simp [encI] at hu; subst hu; simpa using h
  | 1, _, 0, hu => simp [encI] at hu; subst hu; simpa using h2
/-- a slice of one number, just built -/
theorem own_one (w : World) (base : Nat) (e : TypeId) (x : Int) (hb : base ≤ w.heap.size) : Own encI 1 e (w.alloc (.cells #[.int .i64 x] e)) base (.slice (some ⟨w.heap.size, 0, none⟩) 1 1) [x] :=
  ⟨rfl, .inr ⟨w.heap.size, 1, #[.int .i64 x], rfl, hb, heap_alloc_new w _, Nat.le_refl _, by unfold maxLen; decide, rfl, rfl⟩⟩
end Go.Proofs.Ytccailcjclbhlaa
/-! What the reference's back returns: the way to a place. Conditions: the way up is there; the map says where each was come to from. -/
namespace Go.Proofs.Ytccailcjclbhlaa
open Go.RowKit
set_option linter.unusedSimpArgs false
set_option linter.unusedVariables false
def predM (n : Nat) (pred : Nat → Int) : Int → Option Int := fun x => if 0 ≤ x ∧ x < (n : Int) ∧ 0 ≤ pred x.toNat then some (pred x.toNat) else none
end Go.Proofs.Ytccailcjclbhlaa
/-! The reference's search: its lists and maps against costs, ways and order. No program here. -/
namespace Go.Proofs.Ytccailcjclbhlaa
open Go.RowKit
set_option linter.unusedSimpArgs false
set_option linter.unusedVariables false
/-- the costs so far as the reference's map has them -/
def costM (n : Nat) (cost : Nat → Int) : Int → Option Int := fun x => if 0 ≤ x ∧ x < (n : Int) ∧ cost x.toNat < FAR then some (cost x.toNat) else none
/-- the list of those that wait -/
structure WL (n : Nat) (s : SR) (ws : List Nat) : Prop where
  nd : ws.Nodup
  iff : ∀ v, v ∈ ws ↔ Waits n s v
theorem lp_app (l : List Nat) (u : Nat) : LP (l ++ [u]) = LP l ++ [(u : Int)] := by simp [LP]
/-- what the reference's search holds: the two maps, the two lists -/
structure TX (n mb pb k : Nat) (aw ao : Value) (ws : List Nat) (s : SR) (w1 wr : World) : Prop where
  cm : IMap wr mb k (costM n s.cost)
  pm : IMap wr pb k (predM n s.pred)
  wt : Own encI 1 3 wr w1.heap.size aw (LP ws)
  od : Own encI 1 3 wr w1.heap.size ao (LP s.ord)
  ap : ∀ j, ao.ownBlock = some j → aw.ownBlock ≠ some j
  keep : Keep (fun j => j = mb ∨ j = pb) w1 wr
  lt : mb < w1.heap.size ∧ pb < w1.heap.size ∧ mb ≠ pb
section
variable {n mb pb k k' : Nat} {aw ao aw' ao' : Value} {ws ws' : List Nat} {s : SR} {w1 wr w' : World}
end
end Go.Proofs.Ytccailcjclbhlaa
/-! Several texts in one: -/
/-! What the checks of a net return: net.Check, and the reference's Net. No condition but that the slice reads. -/
namespace Go.Proofs.Ytccailcjclbhlaa
open Go.RowKit
set_option linter.unusedSimpArgs false
set_option linter.unusedVariables false

def edErr (N : Int) (e : Ed) : Int := if e.u < 0 ∨ e.u ≥ N ∨ e.v < 0 ∨ e.v ≥ N then 1 else if e.c < -10000 ∨ e.c > 10000 then 4 else 0
def edsErr (N : Int) : List Ed → Int | [] => 0 | e :: r => if edErr N e ≠ 0 then edErr N e else edsErr N r
def netErr (N : Int) (es : List Ed) : Int := if N < 1 ∨ N > 64 then 1 else if es.length > 600 then 2 else edsErr N es
theorem edsErr_hit {N : Int} {es : List Ed} {k : Nat} (h : k < es.length) (x : Int) (hx : x ≠ 0) (he : edErr N es[k] = x) : edsErr N (es.drop k) = x := by
  rw [List.drop_eq_getElem_cons h, edsErr, he, if_pos hx]
theorem edsErr_miss {N : Int} {es : List Ed} {k : Nat} (h : k < es.length) (he : edErr N es[k] = 0) : edsErr N (es.drop k) = edsErr N (es.drop (k+1)) := by
  rw [List.drop_eq_getElem_cons h, edsErr, he, if_neg (by simp)]
theorem edsErr_all {N : Int} : ∀ {es : List Ed}, edsErr N es = 0 → ∀ e ∈ es, 0 ≤ e.u ∧ e.u < N ∧ 0 ≤ e.v ∧ e.v < N ∧ -10000 ≤ e.c ∧ e.c ≤ 10000
  | [], _, e, he => by cases he
  | x :: r, h, e, he => by
    rw [edsErr] at h
    split at h
    · omega
    · rename_i g
      have g : edErr N x = 0 := by omega
      cases he with
      | head => unfold edErr at g; split at g; · omega
                split at g <;> omega
      | tail _ hm => exact edsErr_all h e hm
theorem netErr_ok {N : Int} {es : List Ed} (h : netErr N es = 0) : 1 ≤ N ∧ N ≤ 64 ∧ es.length ≤ 600 ∧ ∀ e ∈ es, 0 ≤ e.u ∧ e.u < N ∧ 0 ≤ e.v ∧ e.v < N ∧ -10000 ≤ e.c ∧ e.c ≤ 10000 := by
  unfold netErr at h
  split at h
  · omega
  · split at h
    · omega
    · exact ⟨by omega, by omega, by omega, edsErr_all h⟩

theorem check_any (N : Int) (a : Option Addr) (cap : Nat) (es : List Ed) (w : World) (B : Nat) (hB : B ≤ w.heap.size) (hE : Row encE 3 w B a es) (hl : es.length ≤ 9223372036854775807) :
    Calls Try.prog 53 #[.agg #[.int .i64 N, .slice a es.length cap]] w fun e w' => e = .returned (.int .i64 (netErr N es)) ∧ Below w.heap.size w w' := by
  by_cases h1 : N < 1
  · have hr : Hid (netErr N es = 1) := by simp [Hid, netErr, h1]
    go_enter Try.func53, Try.ntmps53
    go_wp2
    go_ret
    exact ⟨ret_int hr.out.symm, (Below.refl _ _).alloc (Nat.le_refl _) _⟩
  by_cases h2 : 64 < N
  · have hr : Hid (netErr N es = 1) := by simp [Hid, netErr, h2]
    go_enter Try.func53, Try.ntmps53
    go_wp2
    go_ret
    exact ⟨ret_int hr.out.symm, (Below.refl _ _).alloc (Nat.le_refl _) _⟩
  by_cases h3 : 600 < (es.length : Int)
  · have hr : Hid (netErr N es = 2) := by simp only [Hid, netErr]; rw [if_neg (by omega), if_pos (by omega)]
    go_enter Try.func53, Try.ntmps53
    go_wp2
    go_ret
    exact ⟨ret_int hr.out.symm, (Below.refl _ _).alloc (Nat.le_refl _) _⟩
  have hr : Hid (netErr N es = edsErr N es) := by simp only [Hid, netErr]; rw [if_neg (by omega), if_neg (by omega)]
  go_enter Try.func53, Try.ntmps53
  go_wp2
  go_loopw [20] (fun i wr => ∃ k : Nat, k ≤ es.length ∧ i = .int .i64 k ∧ Hid (edsErr N es = edsErr N (es.drop k)) ∧ wr.cell? ⟨w.heap.size, 0, none⟩ = some (.int .i64 N) ∧ Below w.heap.size w wr ∧ w.heap.size < wr.heap.size) (fun i _ => es.length - (intOf i).toNat)
  case atStart => exact ⟨0, Nat.zero_le _, rfl, rfl, by simp, (Below.refl _ _).alloc (Nat.le_refl _) _, by simp⟩
  case round =>
    obtain ⟨k, hk, rfl, hrest, hN, hb, hsz⟩ := hrel
    by_cases hlt : k < es.length
    · obtain ⟨b, o, rfl, hbB, c0, c1, c2⟩ := hE.ed k hlt
      rw [← hb.cell (by simp; omega)] at c0 c1 c2
      go_wp2
      all_goals first
        | (go_ret
           refine ⟨ret_int ?_, hb.alloc (by omega) _⟩
           rw [hr.out, hrest.out]
           first
             | exact (edsErr_hit hlt 1 (by omega) (by simp only [edErr]; rw [if_pos (by omega)])).symm
             | exact (edsErr_hit hlt 4 (by omega) (by simp only [edErr]; rw [if_neg (by omega), if_pos (by omega)])).symm)
        | (go_roundw
           case rel => exact ⟨k + 1, by omega, by go_num, by rw [Hid, hrest.out]; exact edsErr_miss hlt (by simp only [edErr]; rw [if_neg (by omega), if_neg (by omega)]), cell_alloc hN hsz _, hb.alloc (by omega) _, lt_alloc hsz _⟩
           case measure => simp [intOf]; omega)
    · go_wp2
      go_ret
      refine ⟨ret_int ?_, hb⟩
      rw [hr.out, hrest.out, List.drop_eq_nil_of_le (by omega)]
      rfl

end Go.Proofs.Ytccailcjclbhlaa

/-! What net.Pos and the reference's Pos return: is a net right, and are its costs above 0? No condition but that the slice reads. -/
namespace Go.Proofs.Ytccailcjclbhlaa
open Go.RowKit
set_option linter.unusedSimpArgs false
set_option linter.unusedVariables false

def lowCost : List Ed → Bool | [] => false | e :: r => if e.c < 1 then true else lowCost r
def posErr (N : Int) (es : List Ed) : Int := if netErr N es ≠ 0 then netErr N es else if lowCost es then 4 else 0
theorem low_hit {es : List Ed} {k : Nat} (h : k < es.length) (hc : es[k].c < 1) : lowCost (es.drop k) = true := by
  rw [List.drop_eq_getElem_cons h, lowCost, if_pos hc]
theorem low_miss {es : List Ed} {k : Nat} (h : k < es.length) (hc : ¬ es[k].c < 1) : lowCost (es.drop k) = lowCost (es.drop (k + 1)) := by
  rw [List.drop_eq_getElem_cons h, lowCost, if_neg hc]
theorem low_no : ∀ {es : List Ed}, lowCost es = false → ∀ e ∈ es, 1 ≤ e.c
  | [], _, e, he => by cases he
  | x :: r, h, e, he => by
    rw [lowCost] at h
    split at h
    · cases h
    · cases he with
      | head => omega
      | tail _ hm => exact low_no h e hm
theorem posErr_ok {N : Int} {es : List Ed} (h : posErr N es = 0) : netErr N es = 0 ∧ ∀ e ∈ es, 1 ≤ e.c := by
  unfold posErr at h
  split at h
  · omega
  · split at h
    · omega
    · exact ⟨by omega, low_no (by simpa using ‹¬ lowCost es = true›)⟩

theorem pos_any (N : Int) (a : Option Addr) (cap : Nat) (es : List Ed) (w : World) (B : Nat) (hB : B ≤ w.heap.size) (hE : Row encE 3 w B a es) (hl : es.length ≤ 9223372036854775807) :
    Calls Try.prog 39 #[.agg #[.int .i64 N, .slice a es.length cap]] w fun e w' => e = .returned (.int .i64 (posErr N es)) ∧ Below w.heap.size w w' := by
  have hE := hide hE
  by_cases h0 : netErr N es = 0
  · obtain ⟨n1, n2, n3, _⟩ := netErr_ok h0
    have hC := fun w hB hE => check_any N a cap es w B hB hE hl
    rw [h0] at hC
    have hr := hide (show posErr N es = if lowCost es then 4 else 0 by simp [posErr, h0])
    replace hC := hide hC
    clear h0
    go_enter Try.func39, Try.ntmps39
    go_wp2_with fail
    refine (hC.out _ (by simp; omega) (hE.out.below (bel : Below w.heap.size w _) hB)).mono ?_
    rintro e w1 ⟨rfl, hb1⟩
    obtain ⟨hc1, hf1⟩ := bcell hb1; have hz1 : w.heap.size < w1.heap.size := (by have := hb1.size; (try simp at this); omega)
    have hb : Below w.heap.size w w1 := bel
    go_wp2
    go_loopw [14] (fun i wr => ∃ k : Nat, k ≤ es.length ∧ i = .int .i64 k ∧ Hid (lowCost es = lowCost (es.drop k)) ∧ Below w.heap.size w wr) (fun i _ => es.length - (intOf i).toNat)
    case atStart => exact ⟨0, Nat.zero_le _, rfl, rfl, hb⟩
    case round =>
      clear hc1 hf1 hz1 hb1 hb
      obtain ⟨k, hk, rfl, hrest, hb⟩ := hrel
      have hsz := hb.size
      by_cases hlt : k < es.length
      · obtain ⟨b, o, rfl, hbB, c0, c1, c2⟩ := hE.out.ed k hlt
        rw [← hb.cell (by simp; omega)] at c0 c1 c2
        go_wp2
        all_goals first
          | (go_ret
             refine ⟨ret_int ?_, up_alloc hb hsz⟩
             rw [hr.out, hrest.out, low_hit hlt (by omega)]
             rfl)
          | (go_roundw
             case rel => exact ⟨k + 1, by omega, by go_num, by rw [Hid, hrest.out]; exact low_miss hlt (by omega), up_alloc hb hsz⟩
             case measure => simp [intOf]; omega)
      · go_wp2
        go_ret
        refine ⟨ret_int ?_, hb⟩
        rw [hr.out, hrest.out, List.drop_eq_nil_of_le (by omega)]
        rfl
  · have q0 : (netErr N es != 0) = true := by simp [h0]
    have hr := hide (show posErr N es = netErr N es by simp [posErr, h0])
    have hC := hide (fun w hB hE => check_any N a cap es w B hB hE hl)
    clear h0
    go_enter Try.func39, Try.ntmps39
    go_wp2_with fail
    refine (hC.out _ (by simp; omega) (hE.out.below (bel : Below w.heap.size w _) hB)).mono ?_
    rintro e w1 ⟨rfl, hb1⟩
    go_wp2
    go_ret
    exact ⟨ret_int hr.out.symm, bel⟩

end Go.Proofs.Ytccailcjclbhlaa

/-! What dijk.Look and the reference's Look return. Condition: the slices read. -/
namespace Go.Proofs.Ytccailcjclbhlaa
open Go.RowKit
set_option linter.unusedSimpArgs false
set_option linter.unusedVariables false
def plErr (N : Int) : List Int → Int | [] => 0 | x :: r => if x < 0 ∨ N ≤ x then 1 else plErr N r
def lookErr (N : Int) (es : List Ed) (ps : List Int) : Int := if posErr N es ≠ 0 then posErr N es else plErr N ps
theorem pl_hit {N : Int} {ps : List Int} {k : Nat} (h : k < ps.length) (q : ps[k] < 0 ∨ N ≤ ps[k]) : plErr N (ps.drop k) = 1 := by
  rw [List.drop_eq_getElem_cons h, plErr, if_pos q]
theorem pl_miss {N : Int} {ps : List Int} {k : Nat} (h : k < ps.length) (q : ¬ (ps[k] < 0 ∨ N ≤ ps[k])) : plErr N (ps.drop k) = plErr N (ps.drop (k + 1)) := by
  rw [List.drop_eq_getElem_cons h, plErr, if_neg q]
theorem pl_all {N : Int} : ∀ {ps : List Int}, plErr N ps = 0 → ∀ x ∈ ps, 0 ≤ x ∧ x < N
  | [], _, x, hx => by cases hx
  | y :: r, h, x, hx => by
    unfold plErr at h
    split at h
    · omega
    · rename_i q
      rcases List.mem_cons.1 hx with rfl | hx
      · omega
      · exact pl_all h x hx
theorem look_ok {N : Int} {es : List Ed} {ps : List Int} (h : lookErr N es ps = 0) : posErr N es = 0 ∧ ∀ x ∈ ps, 0 ≤ x ∧ x < N := by
  unfold lookErr at h
  by_cases h0 : posErr N es = 0
  · rw [if_neg (by simp [h0])] at h
    exact ⟨h0, pl_all h⟩
  · rw [if_pos h0] at h; exact absurd h h0
theorem look_any (N : Int) (a : Option Addr) (cap : Nat) (es : List Ed) (a1 : Option Addr) (c1 k1 : Nat) (ps : List Int) (hk : ps.length = k1) (w : World) (B : Nat) (hB : B ≤ w.heap.size) (hE : Row encE 3 w B a es) (hP : Row encI 1 w B a1 ps) (hl : es.length ≤ 9223372036854775807) (hl2 : k1 ≤ 9223372036854775807) :
    Calls Try.prog 25 #[.agg #[.int .i64 N, .slice a es.length cap], .slice a1 k1 c1] w fun e w' => e = .returned (.int .i64 (lookErr N es ps)) ∧ Below w.heap.size w w' := by
  subst hk
  by_cases h0 : posErr N es = 0
  · have hr : Hid (lookErr N es ps = plErr N ps) := by simp only [Hid, lookErr]; rw [if_neg (by simp [h0])]
    have hC := hide (fun w hB hE => by have := pos_any N a cap es w B hB hE hl; rw [h0] at this; exact this)
    replace hE := hide hE
    replace hP := hide hP
    clear h0
    go_enter Try.func25, Try.ntmps25
    go_wp2_with fail
    refine (hC.out _ (by simp; omega) (hE.out.below (bel : Below w.heap.size w _) hB)).mono ?_
    rintro e w1 ⟨rfl, hb1⟩
    have hz0 : w.heap.size < w1.heap.size := by have := hb1.size; simp at this; omega
    have kN : w1.cell? ⟨w.heap.size, 0, none⟩ = some (.int .i64 N) := cu_below hb1 (by simp [go_sem]) (by simp)
    have hbw := hide (unalloc (hb1.mono (by simp)) (Nat.le_refl _) : Below w.heap.size w w1)
    clear hb1
    go_wp2
    go_loopw [7, 15] (fun _ i wr => ∃ k : Nat, k ≤ ps.length ∧ i = .int .i64 k ∧ Hid (plErr N ps = plErr N (ps.drop k)) ∧ Hid (Below w1.heap.size w1 wr)) (fun _ i _ => ps.length - (intOf i).toNat)
    case atStart => exact ⟨0, Nat.zero_le _, rfl, rfl, Below.refl _ _⟩
    case round =>
      obtain ⟨k, hk, rfl, hrest, hb⟩ := hrel
      have k0 := (hb.out.cell (cell_lt kN)).trans kN
      have hzr := hb.out.size
      have hbr := hide (hbw.out.trans (hb.out.mono hbw.out.size))
      clear kN
      by_cases hlt : k < ps.length
      · obtain ⟨b, o, rfl, hbB, e0⟩ := hP.out.int k hlt
        have e1 := cu_below hbr.out e0 (by simp; omega)
        have hbl := cell_lt e1
        clear e0
        obtain ⟨x, hx⟩ : ∃ x, x = ps[k] := ⟨_, rfl⟩
        rw [← hx] at e1
        replace hx := hide hx
        by_cases q : x < 0 ∨ N ≤ x
        · have hq := hide (pl_hit hlt (by rw [← hx.out]; exact q))
          have q2 : x < 0 ∨ (0 ≤ x ∧ N ≤ x) := by omega
          clear q
          rcases q2 with q | ⟨q0, q⟩
          all_goals
            go_wp2
            go_ret
            exact ⟨ret_int (by rw [hr.out, hrest.out, hq.out]), hbr.out⟩
        · have hq := hide (pl_miss hlt (by rw [← hx.out]; exact q))
          have q1 : 0 ≤ x := by omega
          have q2 : x < N := by omega
          clear q
          go_wp2
          go_roundw
          case rel => exact ⟨k + 1, by omega, by go_num, hide (by rw [hrest.out, hq.out]), hb⟩
          case measure => simp [intOf]; omega
      · go_wp2
        go_ret
        refine ⟨ret_int ?_, hbr.out⟩
        rw [hr.out, hrest.out, List.drop_eq_nil_of_le (by omega)]
        rfl
  · have hr : Hid (lookErr N es ps = posErr N es) := by simp only [Hid, lookErr]; rw [if_pos h0]
    have q0 : (posErr N es != 0) = true := by simp [h0]
    have hC := hide (fun w hB hE => pos_any N a cap es w B hB hE hl)
    replace hE := hide hE
    replace hP := hide hP
    clear h0
    go_enter Try.func25, Try.ntmps25
    go_wp2_with fail
    refine (hC.out _ (by simp; omega) (hE.out.below (bel : Below w.heap.size w _) hB)).mono ?_
    rintro e w1 ⟨rfl, hb1⟩
    go_wp2
    go_ret
    exact ⟨ret_int hr.out.symm, bel⟩
end Go.Proofs.Ytccailcjclbhlaa
/-! Several texts in one: -/
/-! The edge that costs least between two places: walk.edge, and the reference's Edge. Conditions: costs within bounds. -/
namespace Go.Proofs.Ytccailcjclbhlaa
open Go.RowKit
set_option linter.unusedSimpArgs false
set_option linter.unusedVariables false

/-- what the edges from u to v cost at least; far, if there is none -/
def minE (u v : Int) (es : List Ed) : Int := es.foldl (fun a e => if e.u = u ∧ e.v = v then min a e.c else a) 1099511627776
theorem minE_hit {u v : Int} {es : List Ed} {k : Nat} (h : k < es.length) (hu : es[k].u = u) (hv : es[k].v = v) : minE u v (es.take (k + 1)) = min (minE u v (es.take k)) es[k].c := by
  unfold minE
  rw [List.take_succ_eq_append_getElem h, List.foldl_append]
  simp [hu, hv]
theorem minE_miss {u v : Int} {es : List Ed} {k : Nat} (h : k < es.length) (hm : ¬ (es[k].u = u ∧ es[k].v = v)) : minE u v (es.take (k + 1)) = minE u v (es.take k) := by
  unfold minE
  rw [List.take_succ_eq_append_getElem h, List.foldl_append]
  simp only [List.foldl_cons, List.foldl_nil, if_neg hm]
theorem minE_bd {u v : Int} : ∀ {es : List Ed}, (∀ e ∈ es, -10000 ≤ e.c ∧ e.c ≤ 10000) → minE u v es = 1099511627776 ∨ (-10000 ≤ minE u v es ∧ minE u v es ≤ 10000) := by
  have key : ∀ (es : List Ed) (a : Int), (∀ e ∈ es, -10000 ≤ e.c ∧ e.c ≤ 10000) → (a = 1099511627776 ∨ (-10000 ≤ a ∧ a ≤ 10000)) →
      (es.foldl (fun a e => if e.u = u ∧ e.v = v then min a e.c else a) a = 1099511627776 ∨ (-10000 ≤ es.foldl (fun a e => if e.u = u ∧ e.v = v then min a e.c else a) a ∧ es.foldl (fun a e => if e.u = u ∧ e.v = v then min a e.c else a) a ≤ 10000)) := by
    intro es
    induction es with
    | nil => intro a _ h; exact h
    | cons e r ih =>
      intro a hc h
      refine ih _ (fun x hx => hc x (List.mem_cons_of_mem _ hx)) ?_
      have := hc e (List.mem_cons_self ..)
      dsimp only
      split <;> omega
  intro es h
  exact key es _ h (.inl rfl)
def bestV (m : Int) : Int := if m = 1099511627776 then 0 else m
def foundV (m : Int) : Bool := decide (m ≠ 1099511627776)
set_option maxHeartbeats 2000000 in
theorem wedge_any (N : Int) (a : Option Addr) (cap : Nat) (es : List Ed) (x y : Int) (w : World) (B : Nat) (hB : B ≤ w.heap.size) (hE : Row encE 3 w B a es) (hl : es.length ≤ 600) (hc : ∀ e ∈ es, -10000 ≤ e.c ∧ e.c ≤ 10000) (m : Int) (hm : m = minE x y es) :
    Calls Try.prog 63 #[.agg #[.int .i64 N, .slice a es.length cap], .int .i64 x, .int .i64 y] w fun e w' => e = .returned (.tuple #[.int .i64 (bestV m), .bool (foundV m)]) ∧ Below w.heap.size w w' := by
  replace hE := hide hE
  replace hc := hide hc
  replace hm := hide hm
  go_enter Try.func63, Try.ntmps63
  go_wp2
  go_loopw [8, 9, 11, 15] (fun s8 s9 _ i wr => ∃ (k : Nat) (b : Int) (f : Bool), k ≤ es.length ∧ i = .int .i64 k ∧ s8 = .int .i64 b ∧ s9 = .bool f ∧ Hid (b = bestV (minE x y (es.take k)) ∧ f = foundV (minE x y (es.take k))) ∧ Hid (Below w.heap.size w wr)) (fun _ _ _ i _ => es.length - (intOf i).toNat)
  case atStart => exact ⟨0, 0, false, Nat.zero_le _, rfl, rfl, rfl, ⟨rfl, rfl⟩, hide bel⟩
  case round =>
    obtain ⟨k, b, f, hk, rfl, rfl, rfl, hbf, hb⟩ := hrel
    by_cases hlt : k < es.length
    · obtain ⟨bb, o, rfl, hbB, e0, e1, e2⟩ := hE.out.ed k hlt
      rw [← hb.out.cell (by simp; omega)] at e0 e1 e2
      have hcc := hc.out es[k] (List.getElem_mem hlt)
      have hbd := minE_bd (u := x) (v := y) (es := es.take k) (fun e he => hc.out e (List.mem_of_mem_take he))
      have hbs := hb.out.size
      have hbl : bb < wr.heap.size := by omega
      have hbw := hb.out
      obtain ⟨M, hM⟩ : ∃ M, M = minE x y (es.take k) := ⟨_, rfl⟩
      rw [← hM] at hbd hbf
      by_cases hmt : es[k].u = x ∧ es[k].v = y
      · have hnx := minE_hit hlt hmt.1 hmt.2
        rw [← hM] at hnx
        have q1 : (es[k].u == x) = true := by simpa using hmt.1
        have q2 : (es[k].v == y) = true := by simpa using hmt.2
        obtain ⟨c, hce⟩ : ∃ c, c = es[k].c := ⟨_, rfl⟩
        rw [← hce] at e2 hcc hnx
        replace hce := hide hce
        replace hM := hide hM
        replace hmt := hide hmt
        by_cases hF : M = 1099511627776
        · have hb0 : b = 0 := by rw [hbf.out.1, hF]; rfl
          have hf0 : f = false := by rw [hbf.out.2, hF]; rfl
          subst hb0 hf0
          have hn2 := hide (show minE x y (es.take (k + 1)) = c by rw [hnx, hF]; omega)
          clear hnx hbf hF hbd
          go_wp2
          go_roundw
          case rel =>
            refine ⟨k + 1, c, true, by omega, by go_num, rfl, rfl, ?_, hide bel⟩
            rw [hn2.out]
            exact hide ⟨by unfold bestV; rw [if_neg (by omega)], by unfold foundV; simp; omega⟩
          case measure => simp [intOf]; omega
        · have hb0 : b = M := by rw [hbf.out.1]; unfold bestV; rw [if_neg hF]
          have hf0 : f = true := by rw [hbf.out.2]; unfold foundV; simpa using hF
          subst hb0 hf0
          have hbd2 : -10000 ≤ b ∧ b ≤ 10000 := by omega
          clear hbf hbd
          replace hF := hide hF
          by_cases hcb : c < b
          · have hn2 := hide (show minE x y (es.take (k + 1)) = c by rw [hnx]; omega)
            clear hnx
            go_wp2
            go_roundw
            case rel =>
              refine ⟨k + 1, c, true, by omega, by go_num, rfl, rfl, ?_, hide bel⟩
              rw [hn2.out]
              exact hide ⟨by unfold bestV; rw [if_neg (by omega)], by unfold foundV; simp; omega⟩
            case measure => simp [intOf]; omega
          · have hn2 := hide (show minE x y (es.take (k + 1)) = b by rw [hnx]; omega)
            clear hnx
            go_wp2
            go_roundw
            case rel =>
              refine ⟨k + 1, b, true, by omega, by go_num, rfl, rfl, ?_, hide bel⟩
              rw [hn2.out]
              exact hide ⟨by unfold bestV; rw [if_neg (by omega)], by unfold foundV; simp; omega⟩
            case measure => simp [intOf]; omega
      · have hnx := hide (minE_miss hlt hmt)
        have hcase : (es[k].u == x) = false ∨ ((es[k].u == x) = true ∧ (es[k].v == y) = false) := by
          by_cases h1 : es[k].u = x
          · right
            exact ⟨by simpa using h1, by simpa using (fun h => hmt ⟨h1, h⟩)⟩
          · left; simpa using h1
        replace hM := hide hM
        clear hmt
        rcases hcase with q1 | ⟨q1, q2⟩
        all_goals
          go_wp2
          go_roundw
          case rel =>
            refine ⟨k + 1, b, f, by omega, by go_num, rfl, rfl, ?_, hide bel⟩
            rw [hnx.out, ← hM.out]
            exact hbf
          case measure => simp [intOf]; omega
    · obtain rfl : k = es.length := by omega
      have hfin := hbf.out
      rw [List.take_length, ← hm.out] at hfin
      replace hfin := hide hfin
      go_wp2
      go_ret2
      refine ⟨?_, hb.out⟩
      rw [← hfin.out.1, ← hfin.out.2]
      rfl
end Go.Proofs.Ytccailcjclbhlaa

/-! slices.Min and slices.Max of numbers. Condition: the slice is not empty. -/
namespace Go.Proofs.Ytccailcjclbhlaa
open Go.RowKit
set_option linter.unusedSimpArgs false
set_option linter.unusedVariables false

end Go.Proofs.Ytccailcjclbhlaa

/-! What walk.Cost returns. Conditions: that the slices read. -/
namespace Go.Proofs.Ytccailcjclbhlaa
open Go.RowKit
set_option linter.unusedSimpArgs false
set_option linter.unusedVariables false

/-- the rest of a walk, its cost so far -/
def wcRest (es : List Ed) : List Int → Int → Int × Int
  | u :: v :: r, s => if minE u v es = 1099511627776 then (0, 5) else wcRest es (v :: r) (s + minE u v es)
  | _, s => (s, 0)
theorem wcRest_go {es : List Ed} {p : List Int} {k : Nat} (h : k + 1 < p.length) (s : Int) (hm : minE p[k] p[k + 1] es ≠ 1099511627776) : wcRest es (p.drop k) s = wcRest es (p.drop (k + 1)) (s + minE p[k] p[k + 1] es) := by
  rw [List.drop_eq_getElem_cons (by omega : k < p.length), List.drop_eq_getElem_cons h, wcRest, if_neg hm]
theorem wcRest_no {es : List Ed} {p : List Int} {k : Nat} (h : k + 1 < p.length) (s : Int) (hm : minE p[k] p[k + 1] es = 1099511627776) : wcRest es (p.drop k) s = (0, 5) := by
  rw [List.drop_eq_getElem_cons (by omega : k < p.length), List.drop_eq_getElem_cons h, wcRest, if_pos hm]
theorem wcRest_end {es : List Ed} {p : List Int} {k : Nat} (h : p.length ≤ k + 1) (s : Int) : wcRest es (p.drop k) s = (s, 0) := by
  have : (p.drop k).length ≤ 1 := by simp; omega
  match p.drop k, this with
  | [], _ => rfl
  | [x], _ => rfl
def badAt (N : Int) (x : Int) : Bool := decide (x < 0 ∨ x ≥ N)
def wcost (N : Int) (es : List Ed) (p : List Int) : Int × Int :=
  if netErr N es ≠ 0 then (0, netErr N es) else if p.length = 0 then (0, 1) else if p.length > 100 then (0, 2) else if p.any (badAt N) then (0, 1) else wcRest es p 0
theorem anyI_hit {l : List Int} {q : Int → Bool} {k : Nat} (h : k < l.length) (hq : q l[k] = true) : l.any q = true := List.any_eq_true.2 ⟨_, List.getElem_mem h, hq⟩
theorem anyI_none {l : List Int} {q : Int → Bool} (h : ∀ (k : Nat) (h : k < l.length), q l[k] = false) : l.any q = false := by
  rw [List.any_eq_false]
  intro x hx
  obtain ⟨k, hk, rfl⟩ := List.getElem_of_mem hx
  simp [h k hk]
def PairBack (v : Int × Int) (w : World) (e : Ending) (w' : World) : Prop := e = .returned (.tuple #[.int .i64 v.1, .int .i64 v.2]) ∧ Below w.heap.size w w'
set_option maxRecDepth 100000 in
set_option maxHeartbeats 1000000 in
theorem wcost_bad (N : Int) (a : Option Addr) (cap : Nat) (es : List Ed) (pa : Option Addr) (pc : Nat) (p : List Int) (w : World) (B : Nat) (hB : B ≤ w.heap.size) (hE : Row encE 3 w B a es) (hl : es.length ≤ 9223372036854775807) (hlp : p.length ≤ 9223372036854775807) (h0 : netErr N es ≠ 0 ∨ p.length = 0 ∨ p.length > 100) :
    Calls Try.prog 61 #[.agg #[.int .i64 N, .slice a es.length cap], .slice pa p.length pc] w (PairBack (wcost N es p) w) := by
  have hC := hide (fun w B hB hE => check_any N a cap es w B hB hE hl)
  replace hE := hide hE
  by_cases h1 : netErr N es = 0
  · have hC2 := hide (show ∀ w B, _ from fun w B hB hE => by have := hC.out w B hB hE; rwa [h1] at this)
    clear hC
    by_cases h2 : p.length = 0
    · have hr := hide (show wcost N es p = (0, 1) by unfold wcost; rw [if_neg (by simpa using h1), if_pos h2])
      have q1 : ((p.length : Int) == 0) = true := by simp [h2]
      replace h2 := hide h2
      clear h1 h0
      go_enter Try.func61, Try.ntmps61
      go_wp2_with fail
      refine (hC2.out _ B (by simp <;> omega) (hE.out.below (bel : Below w.heap.size w _) hB)).mono ?_
      rintro e w1 ⟨rfl, hb1⟩
      go_wp2
      go_ret2
      exact ⟨by rw [hr.out]; rfl, bel⟩
    · have h3 : (100 : Int) < (p.length : Int) := by omega
      have hr := hide (show wcost N es p = (0, 2) by unfold wcost; rw [if_neg (by simpa using h1), if_neg h2, if_pos (by omega)])
      have q1 : ((p.length : Int) == 0) = false := by simp [h2]
      replace h2 := hide h2
      clear h1 h0
      go_enter Try.func61, Try.ntmps61
      go_wp2_with fail
      refine (hC2.out _ B (by simp <;> omega) (hE.out.below (bel : Below w.heap.size w _) hB)).mono ?_
      rintro e w1 ⟨rfl, hb1⟩
      go_wp2
      go_ret2
      exact ⟨by rw [hr.out]; rfl, bel⟩
  · have hr := hide (show wcost N es p = (0, netErr N es) by unfold wcost; rw [if_pos h1])
    have q0 : (netErr N es != 0) = true := by simp [h1]
    clear h1 h0
    go_enter Try.func61, Try.ntmps61
    go_wp2_with fail
    refine (hC.out _ B (by simp <;> omega) (hE.out.below (bel : Below w.heap.size w _) hB)).mono ?_
    rintro e w1 ⟨rfl, hb1⟩
    go_wp2
    go_ret2
    exact ⟨by rw [hr.out]; rfl, bel⟩
set_option maxRecDepth 100000 in
set_option maxHeartbeats 4000000 in
theorem wcost_ok (n : Nat) (a : Option Addr) (cap : Nat) (es : List Ed) (pa : Option Addr) (pc : Nat) (p : List Int) (w : World) (B : Nat) (hB : B ≤ w.heap.size) (hE : Row encE 3 w B a es) (hP : Row encI 1 w B pa p) (hl : es.length ≤ 9223372036854775807) (h0 : netErr (n : Int) es = 0) (hp0 : 0 < p.length) (hp1 : p.length ≤ 100) :
    Calls Try.prog 61 #[.agg #[.int .i64 (n : Int), .slice a es.length cap], .slice pa p.length pc] w (PairBack (wcost (n : Int) es p) w) := by
  obtain ⟨n1, n2, n3, n4⟩ := netErr_ok h0
  have hC := hide (show ∀ w B, _ from fun w B hB hE => by have := check_any (n : Int) a cap es w B hB hE hl; rwa [h0] at this)
  have hcs := hide (show ∀ e ∈ es, -10000 ≤ e.c ∧ e.c ≤ 10000 from fun e he => ⟨(n4 e he).2.2.2.2.1, (n4 e he).2.2.2.2.2⟩)
  have hr0 : wcost (n : Int) es p = if p.any (badAt (n : Int)) then (0, 1) else wcRest es p 0 := by unfold wcost; rw [if_neg (by simpa using h0), if_neg (by omega), if_neg (by omega)]
  have q1 : ((p.length : Int) == 0) = false := by simp only [beq_eq_false_iff_ne, ne_eq]; omega
  replace hr0 := hide hr0
  replace hE := hide hE
  replace hP := hide hP
  clear h0 n4
  go_enter Try.func61, Try.ntmps61
  go_wp2_with fail
  refine (hC.out _ B (by simp <;> omega) (hE.out.below (bel : Below w.heap.size w _) hB)).mono ?_
  rintro e w1 ⟨rfl, hb1⟩
  obtain ⟨hc1, hf1⟩ := bcell hb1
  have hz1 : w.heap.size < w1.heap.size := by have := hb1.size; simp at this; omega
  have hB1 := hide (show Below w.heap.size w w1 from bel)
  have k0 : w1.cell? ⟨w.heap.size, 0, none⟩ = some (.int .i64 (n : Int)) := by simp [hc1, hz1, go_sem]
  have k1 : w1.cell? ⟨w.heap.size, 1, none⟩ = some (.slice a es.length cap) := by simp [hc1, hz1, go_sem]
  have hP1 := hide (hP.out.below hB1.out hB)
  have hE1 := hide (hE.out.below hB1.out hB)
  clear hb1 hc1 hf1 hC
  go_wp2
  go_loopw [8, 26] (fun _ i wr => ∃ k : Nat, k ≤ p.length ∧ i = .int .i64 k ∧ Hid (∀ (j : Nat) (h : j < k) (h : j < p.length), badAt (n : Int) p[j] = false) ∧ Hid (∃ d, wr = w1.drewN d)) (fun _ i _ => p.length - (intOf i).toNat)
  case atStart => exact ⟨0, Nat.zero_le _, rfl, fun j h => absurd h (Nat.not_lt_zero _), ⟨0, rfl⟩⟩
  case round =>
    obtain ⟨k, hk, rfl, hD, hw⟩ := hrel
    obtain ⟨d, rfl⟩ := hw.out
    by_cases hlt : k < p.length
    · obtain ⟨b, o, rfl, hbB, c0⟩ := hP1.out.int k hlt
      obtain ⟨x, hx⟩ : ∃ x, x = p[k] := ⟨_, rfl⟩
      rw [← hx] at c0
      by_cases hbad : badAt (n : Int) p[k] = true
      · have hr := hide (show wcost (n : Int) es p = (0, 1) by rw [hr0.out, if_pos (anyI_hit hlt hbad)])
        have hcase : x < 0 ∨ (0 ≤ x ∧ (n : Int) ≤ x) := by rw [← hx] at hbad; simp [badAt] at hbad; omega
        replace hx := hide hx
        clear hbad
        rcases hcase with h | ⟨h1, h2⟩
        all_goals
          go_wp2
          go_ret2
          exact ⟨by rw [hr.out]; rfl, up_drewN hB1.out⟩
      · have hok : badAt (n : Int) p[k] = false := by simpa using hbad
        have hrg : 0 ≤ x ∧ x < n := by rw [← hx] at hok; simp [badAt] at hok; omega
        replace hok := hide hok
        replace hx := hide hx
        clear hbad
        go_wp2
        go_roundw
        case rel =>
          refine ⟨k + 1, by omega, by go_num, ?_, ⟨d, rfl⟩⟩
          refine hide fun j h1 h2 => ?_
          by_cases e : j = k
          · subst e; exact hok.out
          · exact hD.out j (by omega) h2
        case measure => simp [intOf]; omega
    · obtain rfl : k = p.length := by omega
      have hr := hide (show wcost (n : Int) es p = wcRest es p 0 by
        rw [hr0.out, anyI_none (fun j h => hD.out j h h)]
        rfl)
      have hin := hide (show ∀ (j : Nat) (h : j < p.length), 0 ≤ p[j] ∧ p[j] < n from fun j h => by have := hD.out j h h; simp [badAt] at this; omega)
      clear hD hr0 hlt
      go_wp2
      go_loopw [9, 10, 11, 12] (fun s9 i _ _ wr => ∃ (j : Nat) (s : Int), j + 1 ≤ p.length ∧ i = .int .i64 ((j : Int) + 1) ∧ s9 = .int .i64 s ∧ -10000 * (j : Int) ≤ s ∧ s ≤ 10000 * (j : Int) ∧ Hid (wcRest es p 0 = wcRest es (p.drop j) s) ∧ Hid (Below w1.heap.size w1 wr)) (fun _ i _ _ _ => p.length - (intOf i).toNat)
      case atStart => exact ⟨0, 0, by omega, rfl, rfl, by omega, by omega, rfl, up_drewN (Below.refl _ _)⟩
      case round =>
        obtain ⟨j, s, hj, rfl, rfl, hs1, hs2, hR, hb⟩ := hrel
        by_cases hjl : j + 1 < p.length
        · have hbs := hb.out.size
          obtain ⟨b, o, rfl, hbB, c0⟩ := hP1.out.int j (by omega)
          obtain ⟨b', o', e1, _, c1⟩ := hP1.out.int (j + 1) hjl
          simp only [Option.some.injEq, Addr.mk.injEq] at e1
          obtain ⟨rfl, rfl, _⟩ := e1
          have hEr := hide (hE1.out.below hb.out (Nat.le_trans hB hB1.out.size))
          have hm1 := wcRest_go (es := es) hjl s
          have hm2 := wcRest_no (es := es) hjl s
          have hmb := minE_bd (u := p[j]) (v := p[j + 1]) hcs.out
          obtain ⟨x, hx⟩ : ∃ x, x = p[j] := ⟨_, rfl⟩
          obtain ⟨y, hy⟩ : ∃ y, y = p[j + 1] := ⟨_, rfl⟩
          rw [← hx, ← hy] at hm1 hm2 hmb
          rw [← hx] at c0
          rw [← hy] at c1
          obtain ⟨M, hM⟩ : ∃ M, M = minE x y es := ⟨_, rfl⟩
          rw [← hM] at hm1 hm2 hmb
          replace hx := hide hx
          replace hy := hide hy
          replace hM := hide hM
          obtain ⟨wu, rfl⟩ : ∃ wu : World, wu = wr := ⟨_, rfl⟩
          have hw1 : IntKind.i64.wrap ((j : Int) + 1 - 1) = (j : Int) := by rw [show (j : Int) + 1 - 1 = (j : Int) by omega]; exact IntWalk.i64_in _ (by omega)
          have hw2 : IntKind.i64.wrap (j : Int) = (j : Int) := IntWalk.i64_in _ (by omega)
          have i1 : (0 : Int) ≤ (j : Int) ∧ (j : Int) < (p.length : Int) := by omega
          have i2 : (0 : Int) ≤ (j : Int) + 1 ∧ (j : Int) + 1 < (p.length : Int) := by omega
          have i3 : ((j : Int) + 1).toNat = j + 1 := by omega
          have i4 : ((j : Int) + 1 - 1).toNat = j := by omega
          have g0 := (hb.out.cell (cell_lt k0)).trans k0
          have g1 := (hb.out.cell (cell_lt k1)).trans k1
          have g2 := (hb.out.cell (cell_lt c0)).trans c0
          have g3 := (hb.out.cell (cell_lt c1)).trans c1
          have key := hide (show ∀ w', Below wu.heap.size wu w' → (Below wu.heap.size wu w' ∧ w'.cell? ⟨w.heap.size, 0, none⟩ = some (.int .i64 (n : Int)) ∧ w'.cell? ⟨w.heap.size, 1, none⟩ = some (.slice a es.length cap) ∧ w'.cell? ⟨b, o + j, none⟩ = some (.int .i64 x) ∧ w'.cell? ⟨b, o + (j + 1), none⟩ = some (.int .i64 y)) from
            fun w' hb => ⟨hb, (hb.cell (cell_lt g0)).trans g0, (hb.cell (cell_lt g1)).trans g1, (hb.cell (cell_lt g2)).trans g2, (hb.cell (cell_lt g3)).trans g3⟩)
          have hB2 := hide (Nat.le_trans (Nat.le_trans hB hB1.out.size) hbs)
          have hWE := hide (show ∀ (v : Int) (f : Bool), v = bestV M → f = foundV M → ∀ w', Below wu.heap.size wu w' → Calls Try.prog 63 #[.agg #[.int .i64 (n : Int), .slice a es.length cap], .int .i64 x, .int .i64 y] w' fun e w'' => e = .returned (.tuple #[.int .i64 v, .bool f]) ∧ Below w'.heap.size w' w'' from by
            rintro v f rfl rfl w' hb'
            exact wedge_any n a cap es x y w' B (Nat.le_trans hB2.out hb'.size) (hEr.out.below hb' hB2.out) n3 hcs.out M hM.out)
          clear c0 c1 g0 g1 g2 g3 k0 k1
          by_cases hF : M = 1099511627776
          · have hcall := hide (hWE.out 0 false (by rw [hF]; rfl) (by rw [hF]; rfl))
            have hfin := hide (show wcRest es p 0 = (0, 5) by rw [hR.out]; exact hm2 hF)
            replace hF := hide hF
            clear hm1 hm2 hmb hWE
            go_wp2_with fail
            go_region_held3 (fun w' => Below wu.heap.size wu w' ∧ w'.cell? ⟨w.heap.size, 0, none⟩ = some (.int .i64 (n : Int)) ∧ w'.cell? ⟨w.heap.size, 1, none⟩ = some (.slice a es.length cap) ∧ w'.cell? ⟨b, o + j, none⟩ = some (.int .i64 x) ∧ w'.cell? ⟨b, o + (j + 1), none⟩ = some (.int .i64 y))
              (first | exact key.out _ (below_drew _) | exact key.out _ (by assumption))
              (first | (go_at_call 63; have hb4 := (‹_ ∧ _› : _ ∧ _).1; refine (hcall.out _ hb4).mono ?_; rintro e w4 ⟨rfl, hb5⟩; have hb6 := below_step hb4 hb5))
            all_goals
              go_wp2
              go_ret2
              exact ⟨by rw [hr.out, hfin.out]; rfl, hB1.out.trans ((hb.out.trans (hb6.mono hbs)).mono hB1.out.size)⟩
          · have hcall := hide (hWE.out M true (by unfold bestV; rw [if_neg hF]) (by unfold foundV; simpa using hF))
            have hgo := hide (show wcRest es p 0 = wcRest es (p.drop (j + 1)) (s + M) by rw [hR.out]; exact hm1 hF)
            have hM2 : -10000 ≤ M ∧ M ≤ 10000 := by omega
            replace hF := hide hF
            clear hm1 hm2 hmb hWE
            go_wp2_with fail
            go_region_held3 (fun w' => Below wu.heap.size wu w' ∧ w'.cell? ⟨w.heap.size, 0, none⟩ = some (.int .i64 (n : Int)) ∧ w'.cell? ⟨w.heap.size, 1, none⟩ = some (.slice a es.length cap) ∧ w'.cell? ⟨b, o + j, none⟩ = some (.int .i64 x) ∧ w'.cell? ⟨b, o + (j + 1), none⟩ = some (.int .i64 y))
              (first | exact key.out _ (below_drew _) | exact key.out _ (by assumption))
              (first | (go_at_call 63; have hb4 := (‹_ ∧ _› : _ ∧ _).1; refine (hcall.out _ hb4).mono ?_; rintro e w4 ⟨rfl, hb5⟩; have hb6 := below_step hb4 hb5))
            all_goals
              go_wp2
              go_roundw
              case rel => exact ⟨j + 1, s + M, by omega, by go_num, rfl, by omega, by omega, hgo, hide (hb.out.trans (hb6.mono hbs))⟩
              case measure => simp [intOf]; omega
        · have hfin := hide (show wcRest es p 0 = (s, 0) by rw [hR.out]; exact wcRest_end (by omega) s)
          go_wp2
          go_ret2
          exact ⟨by rw [hr.out, hfin.out]; rfl, hB1.out.trans (hb.out.mono hB1.out.size)⟩
end Go.Proofs.Ytccailcjclbhlaa

/-! What the reference's WalkCost returns. Conditions: that the slices read. -/
namespace Go.Proofs.Ytccailcjclbhlaa
open Go.RowKit
set_option linter.unusedSimpArgs false
set_option linter.unusedVariables false
end Go.Proofs.Ytccailcjclbhlaa

/-! The walk of felllaw.WalkCosts: it returns true. Conditions: the arguments read as data. -/
namespace Go.Proofs.Ytccailcjclbhlaa
open Go.RowKit
set_option linter.unusedSimpArgs false
set_option linter.unusedVariables false
/-- both, whatever they are given -/
theorem wcost_any (N : Int) (a : Option Addr) (cap : Nat) (es : List Ed) (pa : Option Addr) (pc : Nat) (p : List Int) (w : World) (B : Nat) (hB : B ≤ w.heap.size) (hE : Row encE 3 w B a es) (hP : Row encI 1 w B pa p) (hl : es.length ≤ 9223372036854775807) (hlp : p.length ≤ 9223372036854775807) :
    Calls Try.prog 61 #[.agg #[.int .i64 N, .slice a es.length cap], .slice pa p.length pc] w (PairBack (wcost N es p) w) := by
  by_cases h : netErr N es ≠ 0 ∨ p.length = 0 ∨ p.length > 100
  · exact wcost_bad N a cap es pa pc p w B hB hE hl hlp h
  · have h0 : netErr N es = 0 := by
      by_cases h1 : netErr N es = 0
      · exact h1
      · exact absurd (.inl h1) h
    obtain ⟨n, rfl⟩ := Int.eq_ofNat_of_zero_le (show 0 ≤ N by have := netErr_ok h0; omega)
    exact wcost_ok n a cap es pa pc p w B hB hE hP hl h0 (by omega) (by omega)
end Go.Proofs.Ytccailcjclbhlaa
/-! What holds while a search runs: its object, the three rows, the heap. No condition. -/
namespace Go.Proofs.Ytccailcjclbhlaa
open Go.RowKit
set_option linter.unusedSimpArgs false
set_option linter.unusedVariables false
/-- the blocks that a search writes -/
def SXb (gc gp gd gh : Nat) (j : Nat) : Prop := j = gc ∨ j = gp ∨ j = gd ∨ j = gh
/-- which places were looked from -/
def ordB (n : Nat) (ord : List Nat) : List Bool := (List.range n).map fun v => decide (v ∈ ord)
/-- sb: the object; gc, gp, gd: costs, where from, done; gh: the heap; wS: the world right behind their making -/
structure SX (base n sb gc gp gd gh : Nat) (ov hv kf v : Value) (k : Nat) (f : Nat → Ed) (s : SR) (wS wr : World) : Prop where
  c2 : wr.cell? ⟨sb, 2, none⟩ = some ov
  c3 : wr.cell? ⟨sb, 3, none⟩ = some hv
  c4 : wr.cell? ⟨sb, 4, none⟩ = some (.slice (some ⟨gc, 0, none⟩) n n)
  c5 : wr.cell? ⟨sb, 5, none⟩ = some (.slice (some ⟨gp, 0, none⟩) n n)
  c6 : wr.cell? ⟨sb, 6, none⟩ = some (.slice (some ⟨gd, 0, none⟩) n n)
  c7 : wr.cell? ⟨sb, 7, none⟩ = some (.pointer (some ⟨gh, 0, none⟩))
  c8 : wr.cell? ⟨sb, 8, none⟩ = some kf
  cost : Own encI 1 3 wr base (.slice (some ⟨gc, 0, none⟩) n n) (LI n s.cost)
  pred : Own encI 1 3 wr base (.slice (some ⟨gp, 0, none⟩) n n) (LI n s.pred)
  done : Own encB 1 4 wr base (.slice (some ⟨gd, 0, none⟩) n n) (ordB n s.ord)
  heap : HeapT wr gh gh (.func (.func 36) #[] #[]) v k f
  keep : Keep (SXb gc gp gd gh) wS wr
  hs : ∀ j, v.ownBlock = some j → wS.heap.size ≤ j
  lt : sb < wS.heap.size ∧ gc < wS.heap.size ∧ gp < wS.heap.size ∧ gd < wS.heap.size ∧ gh < wS.heap.size
  ne : sb ≠ gc ∧ sb ≠ gp ∧ sb ≠ gd ∧ sb ≠ gh ∧ gc ≠ gp ∧ gc ≠ gd ∧ gc ≠ gh ∧ gp ≠ gd ∧ gp ≠ gh ∧ gd ≠ gh
section
variable {base n sb gc gp gd gh : Nat} {ov hv kf v : Value} {k : Nat} {f : Nat → Ed} {s : SR} {wS wr w' : World}
end
end Go.Proofs.Ytccailcjclbhlaa
/-! A list of rows that grows by one row at a time, each row a slice of its own. Conditions: bounds on lengths. -/
namespace Go.Proofs.Ytccailcjclbhlaa
open Go.RowKit

/-- append of one element to a slice of the call's own; where the new slice lies -/
theorem wpList_pushL {α : Type} {enc : α → List Value} {sz : Nat} {e : TypeId} {w : World} {base : Nat} {v : Value} {xs : List α} {P : Program} {ops : Array Oper} {rest : List Oper} {o : Oper} {a : Act} {Q : Exit → Act → World → Prop} (hgd : o.guard = none) (s x : Operand) (t : TypeId)
    (ho : o.op = .call { callee := .builtin .append, args := #[s, x], argTypes := #[t, t] })
    (z : Value) (bytes : Nat) (ht : P.underlying t = some (.slice e)) (hinf : (P.info? e).map (fun i => (i.zero, i.size, i.bytes)) = some (some z, sz, bytes)) (hzs : z.cells.size = sz) (hsz : 0 < sz)
    (hlen : ∀ x, (enc x).length = sz) (hone : ∀ x, ∀ u ∈ enc x, u.oneCell' = true)
    (n : Nat) (hn : xs.length = n) (hs : a.eval s = v) (own : Own enc sz e w base v xs) (ad : Addr) (c : Nat) (y : α) (hx : a.eval x = .slice (some ad) 1 c)
    (hcells : ∀ j u, (enc y)[j]? = some u → w.cell? (ad.add j) = some u) (hbound : (n + 1) * bytes ≤ 140737488355328) (hmax : n + 1 ≤ maxLen) (hbase : base ≤ w.heap.size)
    (h : ∀ g c' w', Own enc sz e w' base (.slice (some ⟨g, 0, none⟩) (n + 1) c') (xs ++ [y]) → Below base w w' → w.grownBy w' v.ownBlock → (v.ownBlock = some g ∨ g = w.heap.size) → g < w'.heap.size → wpList P ops Q rest (a.put o.dst (.slice (some ⟨g, 0, none⟩) (n + 1) c')) w') : wpList P ops Q (o :: rest) a w := by
  subst hn
  obtain ⟨i0, hi, hz0, hz1, hz2⟩ := info_parts hinf
  refine wpList_append_lies w hgd s x t ho base e i0 z sz bytes ht hi hz0 hz1 hz2 hzs hsz v xs.length (xs.flatMap enc) hs own ad 1 c (enc y) hx (by rw [hlen, Nat.one_mul]) hcells (hone y) (by omega) hmax hbound hbase w.heap.size rfl ?_
  intro g cap w' own' hg hat hlt
  have own2 : Own enc sz e w' base (.slice (some ⟨g, 0, none⟩) (xs.length + 1) cap) (xs ++ [y]) := by
    unfold Own
    rw [List.length_append, List.flatMap_append]
    simpa using own'
  exact h g cap w' own2 ((Below.refl _ _).grown hg hbase (fun k hk => (own.block_lt k hk).1)) hg hat hlt
/-- a slice value: where it begins, its length, its room -/
structure S3 where
  a : Option Addr
  n : Nat
  c : Nat
end Go.Proofs.Ytccailcjclbhlaa
