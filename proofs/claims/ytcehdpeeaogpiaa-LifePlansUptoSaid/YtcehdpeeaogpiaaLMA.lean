/-
  Several texts in one:
  A heap of spots (two keys, a number): which is less, what it holds; New, Len, Less. Conditions: none.
  heap.Push over spots. Conditions: bounds on the length.
  heap.Pop over spots. Conditions: at least one, bounds on the length.
  One way, mended as edges change: costs, what a place looks like, what waits; that what is settled is right, with how much work. No program here.
  A plan (life) in memory: its object, its edges, its rows, its heap; what changes when one of them is written. No condition.
  A plan (life): what its key, its heap's Top return; how a place is put into its heap. Conditions: the object reads as LX says.
-/
import Derived.Test.YtcehdpeeaogpiaaHeapN
import Derived.LoopTactic
import Derived.BigQuiet
import Derived.BigRegion
import Derived.StillTailTactics
import Derived.Deep.QuietTactic
import Derived.Deep.RegionLaw
import Derived.Deep.RegionHeld3
import Derived.WalkSpells
import Derived.WalkLawsBesides
import Derived.Test.YtcehdpeeaogpiaaWayE
import Derived.Test.YtcehdpeeaogpiaaWCost
import Derived.Test.YtcehdpeeaogpiaaHeapB
import Derived.Test.YtcehdpeeaogpiaaStarO
import Derived.Test.YtcehdpeeaogpiaaTurn
import Derived.Test.YtcehdpeeaogpiaaHeldEnd
import Derived.Test.YtcehdpeeaogpiaaRegInv
import Derived.Deep.DeepCutAuto
/-! A heap of spots (two keys, a number): which is less, what it holds; New, Len, Less. Conditions: none. -/
namespace Go.Proofs.Ytcehdpeeaogpiaa
open Go.RowKit
set_option linter.unusedSimpArgs false
set_option linter.unusedVariables false
/-- less: by key, then by guess, then by number -/
def spLt (a b : Ed) : Bool := decide (a.u < b.u ∨ (a.u = b.u ∧ (a.v < b.v ∨ (a.v = b.v ∧ a.c < b.c))))
theorem spLt_ord : Ord spLt := by
  constructor
  · intro a; simp [spLt]
  · intro a b h; simp only [spLt, decide_eq_true_eq, decide_eq_false_iff_not] at *; omega
  · intro a b c h1 h2; simp only [spLt, decide_eq_false_iff_not] at *; omega
theorem info_spot : (Try.prog.info? 161).map (fun i => (i.zero, i.size, i.bytes)) = some (some (.agg #[.int .i64 0, .int .i64 0, .int .i64 0]), 3, 24) := by kernel_rfl
theorem Own.putS {e : TypeId} {w : World} {base : Nat} {xs : List Ed} {g n c : Nat} (h : Own encE 3 e w base (.slice (some ⟨g, 0, none⟩) n c) xs) (i : Nat) (hi : i < xs.length) (p : Ed) :
    Own encE 3 e (((w.setCell ⟨g, i * 3, none⟩ (.int .i64 p.u)).setCell ⟨g, i * 3 + 1, none⟩ (.int .i64 p.v)).setCell ⟨g, i * 3 + 2, none⟩ (.int .i64 p.c)) base (.slice (some ⟨g, 0, none⟩) n c) (xs.set i p) := by
  have h1 := h.put lenE i hi 0 (by omega) (.int .i64 p.u) ⟨p.u, xs[i].v, xs[i].c⟩ rfl
  have h2 := h1.put lenE i (by simpa using hi) 1 (by omega) (.int .i64 p.v) ⟨p.u, p.v, xs[i].c⟩ (by simp [encE])
  have h3 := h2.put lenE i (by simpa using hi) 2 (by omega) (.int .i64 p.c) p (by simp [encE])
  rw [List.set_set, List.set_set] at h3
  simpa using h3
/-- the heap at g holds the n first of f; lf says which is less -/
structure HeapS (w : World) (base g : Nat) (lf v : Value) (n : Nat) (f : Nat → Ed) : Prop where
  bg : base ≤ g
  lt : g < w.heap.size
  c0 : w.cell? ⟨g, 0, none⟩ = some lf
  c1 : w.cell? ⟨g, 1, none⟩ = some v
  f1 : w.frozen? ⟨g, 1, none⟩ = false
  own : Own encE 3 161 w base v (RW n f)
  ap : v.ownBlock ≠ some g
theorem HeapS.keep {S : Nat → Prop} {w w' : World} {base g n : Nat} {lf v : Value} {f : Nat → Ed} (h : HeapS w base g lf v n f) (k : Keep S w w') (hg : ¬ S g) (hv : ∀ k, v.ownBlock = some k → ¬ S k) : HeapS w' base g lf v n f :=
  ⟨h.bg, Nat.lt_of_lt_of_le h.lt k.size, k.cu h.c0 hg, k.cu h.c1 hg, (k.frozen (p := ⟨g, 1, none⟩) h.lt hg).trans h.f1, k.own h.own hv, h.ap⟩
theorem HeapS.stays {w w' : World} {base g n : Nat} {lf v : Value} {f : Nat → Ed} (h : HeapS w base g lf v n f) (k : Below w.heap.size w w') : HeapS w' base g lf v n f :=
  h.keep (Keep.new (S := fun _ => False) k) (fun h => h) (fun _ _ h => h)
theorem HeapS.drew {w : World} {base g n : Nat} {lf v : Value} {f : Nat → Ed} (h : HeapS w base g lf v n f) : HeapS w.drew base g lf v n f := ⟨h.bg, h.lt, h.c0, h.c1, h.f1, h.own.drew, h.ap⟩
theorem HeapS.drewN {w : World} {base g n : Nat} {lf v : Value} {f : Nat → Ed} (h : HeapS w base g lf v n f) (m : Nat) : HeapS (w.drewN m) base g lf v n f := by
  induction m with
  | zero => exact h
  | succ m ih => exact ih.drew
theorem HeapS.alloc {w : World} {base g n : Nat} {lf v : Value} {f : Nat → Ed} (h : HeapS w base g lf v n f) (o : Obj) : HeapS (w.alloc o) base g lf v n f := h.stays ((Below.refl _ _).alloc (Nat.le_refl _) o)
/-- two exchanged -/
theorem HeapS.swap {w : World} {base g n gs m c : Nat} {lf : Value} {f : Nat → Ed} (h : HeapS w base g lf (.slice (some ⟨gs, 0, none⟩) m c) n f) {i k : Nat} (hi : i < n) (hk : k < n) :
    HeapS ((((((w.setCell ⟨gs, i * 3, none⟩ (.int .i64 (f k).u)).setCell ⟨gs, i * 3 + 1, none⟩ (.int .i64 (f k).v)).setCell ⟨gs, i * 3 + 2, none⟩ (.int .i64 (f k).c)).setCell ⟨gs, k * 3, none⟩ (.int .i64 (f i).u)).setCell ⟨gs, k * 3 + 1, none⟩ (.int .i64 (f i).v)).setCell ⟨gs, k * 3 + 2, none⟩ (.int .i64 (f i).c)) base g lf (.slice (some ⟨gs, 0, none⟩) m c) n (swf f i k) := by
  have hne : gs ≠ g := fun e => h.ap (by rw [e]; rfl)
  have h1 := h.own.putS i (by rw [rw_len]; exact hi) (f k)
  have h2 := h1.putS k (by rw [List.length_set, rw_len]; exact hk) (f i)
  rw [rw_set, rw_set] at h2
  have kp := hide (((((((hide (Keep.refl (fun k => k = gs) w)).out.setCell (p := ⟨gs, i * 3, none⟩) (.inl rfl) (.int .i64 (f k).u)).setCell (p := ⟨gs, i * 3 + 1, none⟩) (.inl rfl) (.int .i64 (f k).v)).setCell (p := ⟨gs, i * 3 + 2, none⟩) (.inl rfl) (.int .i64 (f k).c)).setCell (p := ⟨gs, k * 3, none⟩) (.inl rfl) (.int .i64 (f i).u)).setCell (p := ⟨gs, k * 3 + 1, none⟩) (.inl rfl) (.int .i64 (f i).v)).setCell (p := ⟨gs, k * 3 + 2, none⟩) (.inl rfl) (.int .i64 (f i).c))
  replace kp := kp.out
  have hng : ¬ (g = gs) := fun e => hne e.symm
  exact ⟨h.bg, Nat.lt_of_lt_of_le h.lt kp.size, kp.cu h.c0 hng, kp.cu h.c1 hng, (kp.frozen (p := ⟨g, 1, none⟩) h.lt hng).trans h.f1, h2, h.ap⟩
/-- a new heap: empty -/
theorem HeapS.fresh (w : World) (lf : Value) (f : Nat → Ed) (t : TypeId) : HeapS (w.alloc (.cells #[lf, .slice none 0 0] t)) w.heap.size w.heap.size lf (.slice none 0 0) 0 f :=
  ⟨Nat.le_refl _, by simp, by simp [go_sem], by simp [go_sem], by simp [go_sem], Own.nil _ _, by simp [Value.ownBlock]⟩
set_option maxHeartbeats 2000000 in
theorem lessS_any (p q : Ed) (w : World) :
    Calls Try.prog 117 #[.agg #[.int .i64 p.u, .int .i64 p.v, .int .i64 p.c], .agg #[.int .i64 q.u, .int .i64 q.v, .int .i64 q.c]] w fun e w' => e = .returned (.bool (spLt p q)) ∧ Below w.heap.size w w' := by
  go_enter Try.func117, Try.ntmps117
  by_cases h1 : p.u = q.u
  · have q1 : (p.u != q.u) = false := by simp [h1]
    by_cases h2 : p.v < q.v
    · have e1 : spLt p q = true := by simp [spLt, h1, h2]
      have q2 : (p.v < q.v) = True := by simp [h2]
      rw [e1]
      replace h1 := hide h1
      replace h2 := hide h2
      go_wp2
      go_ret
      exact ⟨rfl, (by repeat (first | with_reducible exact Below.refl _ _ | with_reducible assumption | with_reducible refine up_drewN ?_ | with_reducible refine up_drew ?_ | (with_reducible refine up_alloc ?_ ?_; rotate_left; (first | omega | (simp <;> omega) | simp)) | (with_reducible refine up_set ?_ ?_; rotate_left; (first | omega | (simp <;> omega) | simp)) | (with_reducible refine Below.trans ?_ (Below.mono (by with_reducible assumption) ?_); rotate_left; (first | omega | (simp <;> omega) | simp))))⟩
    · by_cases h3 : p.v = q.v
      · have q3 : (p.v == q.v) = true := by simp [h3]
        have e1 : spLt p q = decide (p.c < q.c) := by simp [spLt, h1, h3]
        rw [e1]
        have h4 : (p.v < q.v) = False := by simp [h2]
        replace h1 := hide h1
        replace h3 := hide h3
        go_wp2
        go_ret
        exact ⟨rfl, (by repeat (first | with_reducible exact Below.refl _ _ | with_reducible assumption | with_reducible refine up_drewN ?_ | with_reducible refine up_drew ?_ | (with_reducible refine up_alloc ?_ ?_; rotate_left; (first | omega | (simp <;> omega) | simp)) | (with_reducible refine up_set ?_ ?_; rotate_left; (first | omega | (simp <;> omega) | simp)) | (with_reducible refine Below.trans ?_ (Below.mono (by with_reducible assumption) ?_); rotate_left; (first | omega | (simp <;> omega) | simp))))⟩
      · have q3 : (p.v == q.v) = false := by simp [h3]
        have e1 : spLt p q = false := by simp [spLt, h1, h2, h3]
        rw [e1]
        have h4 : (p.v < q.v) = False := by simp [h2]
        replace h1 := hide h1
        go_wp2
        go_ret
        exact ⟨rfl, (by repeat (first | with_reducible exact Below.refl _ _ | with_reducible assumption | with_reducible refine up_drewN ?_ | with_reducible refine up_drew ?_ | (with_reducible refine up_alloc ?_ ?_; rotate_left; (first | omega | (simp <;> omega) | simp)) | (with_reducible refine up_set ?_ ?_; rotate_left; (first | omega | (simp <;> omega) | simp)) | (with_reducible refine Below.trans ?_ (Below.mono (by with_reducible assumption) ?_); rotate_left; (first | omega | (simp <;> omega) | simp))))⟩
  · have q1 : (p.u != q.u) = true := by simp [h1]
    have e1 : spLt p q = decide (p.u < q.u) := by simp [spLt, h1]
    rw [e1]
    go_wp2
    go_ret
    exact ⟨rfl, (by repeat (first | with_reducible exact Below.refl _ _ | with_reducible assumption | with_reducible refine up_drewN ?_ | with_reducible refine up_drew ?_ | (with_reducible refine up_alloc ?_ ?_; rotate_left; (first | omega | (simp <;> omega) | simp)) | (with_reducible refine up_set ?_ ?_; rotate_left; (first | omega | (simp <;> omega) | simp)) | (with_reducible refine Below.trans ?_ (Below.mono (by with_reducible assumption) ?_); rotate_left; (first | omega | (simp <;> omega) | simp))))⟩
theorem newS_any (F : Nat) (w : World) : Calls Try.prog 116 #[.func (.func F) #[] #[]] w fun e w' => e = .returned (.pointer (some ⟨w.heap.size, 0, none⟩)) ∧ w' = w.alloc (.cells #[.func (.func F) #[] #[], .slice none 0 0] 221) := by
  go_enter Try.func116, Try.ntmps116
  go_wp2
  go_ret
  exact ⟨rfl, rfl⟩
theorem lenS_any (g : Nat) (a : Option Addr) (n c : Nat) (w : World) (hc : w.cell? ⟨g, 1, none⟩ = some (.slice a n c)) : Calls Try.prog 210 #[.pointer (some ⟨g, 0, none⟩)] w fun e w' => e = .returned (.int .i64 (n : Int)) ∧ w = w' := by
  go_enter Try.func210, Try.ntmps210
  go_wp2
  go_ret
  exact ⟨rfl, rfl⟩
end Go.Proofs.Ytcehdpeeaogpiaa

/-! heap.Push over spots. Conditions: bounds on the length. -/
namespace Go.Proofs.Ytcehdpeeaogpiaa
open Go.RowKit
set_option linter.unusedSimpArgs false
set_option linter.unusedVariables false
/-- what Push keeps -/
def HeapedS (w : World) (base g : Nat) (lf v : Value) (n : Nat) (f : Nat → Ed) (w' : World) : Prop :=
  ∃ gs c, HeapS w' base g lf (.slice (some ⟨gs, 0, none⟩) n c) n f ∧ Keep (fun k => k = g ∨ v.ownBlock = some k) w w' ∧ (v.ownBlock = some gs ∨ w.heap.size ≤ gs)
theorem HeapS.cells {w : World} {base g gs n c : Nat} {lf : Value} {f : Nat → Ed} (h : HeapS w base g lf (.slice (some ⟨gs, 0, none⟩) n c) n f) (i : Nat) (hi : i < n) :
    w.cell? ⟨gs, i * 3, none⟩ = some (.int .i64 (f i).u) ∧ w.cell? ⟨gs, i * 3 + 1, none⟩ = some (.int .i64 (f i).v) ∧ w.cell? ⟨gs, i * 3 + 2, none⟩ = some (.int .i64 (f i).c) := by
  have := h.own.getE i (by rw [rw_len]; exact hi)
  rw [rw_get] at this
  exact this
theorem HeapS.frees {w : World} {base g gs n c : Nat} {lf : Value} {f : Nat → Ed} (h : HeapS w base g lf (.slice (some ⟨gs, 0, none⟩) n c) n f) (i : Nat) : w.frozen? ⟨gs, i, none⟩ = false := h.own.free i
/-- behind the append -/
theorem HeapS.grew {w w2 : World} {base g n : Nat} {lf v : Value} {f : Nat → Ed} {p : Ed} (h : HeapS w base g lf v n f) {E X : Obj} {gs cap' : Nat}
    (own2 : w2.ownsRow base 161 3 (.slice (some ⟨gs, 0, none⟩) (n + 1) cap') (n + 1) ((RW n f).flatMap encE ++ [.int .i64 p.u, .int .i64 p.v, .int .i64 p.c])) (hg2 : ((w.alloc E).alloc X).drew.grownBy w2 v.ownBlock) (hat : v.ownBlock = some gs ∨ gs = w.heap.size + 1 + 1) :
    HeapS (w2.setCell ⟨g, 1, none⟩ (.slice (some ⟨gs, 0, none⟩) (n + 1) cap')) base g lf (.slice (some ⟨gs, 0, none⟩) (n + 1) cap') (n + 1) (upz f n p) ∧ Keep (fun k => k = g ∨ v.ownBlock = some k) w (w2.setCell ⟨g, 1, none⟩ (.slice (some ⟨gs, 0, none⟩) (n + 1) cap')) := by
  have hlt := h.lt
  have hne : gs ≠ g := by
    rintro rfl
    rcases hat with e | e
    · exact h.ap e
    · omega
  have k0 := hg2.cell (a := ⟨g, 0, none⟩) (cu_drew (cu_alloc (cu_alloc h.c0))) (fun e => h.ap e.symm)
  have k1 := hg2.cell (a := ⟨g, 1, none⟩) (cu_drew (cu_alloc (cu_alloc h.c1))) (fun e => h.ap e.symm)
  have k2 := hg2.frozen_far ⟨g, 1, none⟩ (by simp; omega) (fun e => h.ap e.symm)
  have hf : ((w.alloc E).alloc X).drew.frozen? ⟨g, 1, none⟩ = false := by
    have hb : Below w.heap.size w ((w.alloc E).alloc X).drew := up_drew (up_alloc (up_alloc (Below.refl _ _) (Nat.le_refl _)) (by simp))
    exact (hb.frozen (p := ⟨g, 1, none⟩) hlt).trans h.f1
  rw [hf] at k2
  have hsz : w.heap.size ≤ w2.heap.size := by have := hg2.size; simp at this; omega
  have own' : Own encE 3 161 w2 base (.slice (some ⟨gs, 0, none⟩) (n + 1) cap') (RW (n + 1) (upz f n p)) := by
    rw [rw_push]
    unfold Own
    rw [List.length_append, rw_len, List.flatMap_append]
    exact own2
  refine ⟨⟨h.bg, by simp; omega, ?_, ?_, fu_set k2, own'.elsewhere (by simp [Value.ownBlock]; exact hne) _, by simp [Value.ownBlock]; exact hne⟩, ?_⟩
  · exact cu_set_off k0 (by omega)
  · exact World.cell?_setCell_same _ _ _ k1
  · have hkp : Keep (fun k => k = g ∨ v.ownBlock = some k) w ((w.alloc E).alloc X).drew := (((Keep.refl _ w).alloc E).alloc X).drew
    exact (hkp.grown hg2 (fun k hk => .inl (.inr hk))).setCell (.inl (.inl rfl)) _
set_option maxRecDepth 100000 in
set_option maxHeartbeats 4000000 in
theorem pushS_any (base g n : Nat) (a0 : Option Addr) (c0 : Nat) (f : Nat → Ed) (p : Ed) (w : World) (hH : HeapS w base g (.func (.func 117) #[] #[]) (.slice a0 n c0) n f) (hn : n ≤ 100000000000) :
    Calls Try.prog 182 #[.pointer (some ⟨g, 0, none⟩), .agg #[.int .i64 p.u, .int .i64 p.v, .int .i64 p.c]] w fun e w' => e = .returned (.tuple #[]) ∧ HeapedS w base g (.func (.func 117) #[] #[]) (.slice a0 n c0) (n + 1) (siftUp spLt (upz f n p) n) w' := by
  obtain ⟨i0, hi, hz0, hz1, hz2⟩ := info_parts info_spot
  have hg := hH.lt
  have hbg := hH.bg
  have hc0 := hH.c0
  have hc1 := hH.c1
  have hf1 := hH.f1
  have hown := hH.own
  have hap := hH.ap
  go_enter Try.func182, Try.ntmps182
  have hH' := hide hH
  have hblk := hide hown.block_lt
  unfold Own at hown
  rw [rw_len] at hown
  replace hown := hide hown
  have ha : (Value.slice a0 n c0).ownBlock ≠ some g := hap
  have hsz : base ≤ w.heap.size := by omega
  clear hap hH
  go_wp2
  go_region_law (first | (refine step_append_lies _ rfl (.tmp 10) (.tmp 12) 219 rfl base 161 i0 (.agg #[.int .i64 0, .int .i64 0, .int .i64 0]) 3 24 Try.underlying219 hi hz0 hz1 hz2 rfl (by decide) (.slice a0 n c0) n _ rfl (World.ownsRow.drew (World.ownsRow.alloc (World.ownsRow.alloc hown.out _) _)) ⟨w.heap.size + 1, 0, none⟩ 1 1 [.int .i64 p.u, .int .i64 p.v, .int .i64 p.c] rfl rfl (newE _ _ _ _ (by simp)) (oneE _) (by omega) (by unfold maxLen; omega) (by omega) (by simp; omega) (w.heap.size + 1 + 1) (by simp) ?_; intro gs cap' w2 own2 hg2 hat hlt2; have k0 := hg2.cell (a := ⟨g, 0, none⟩) (cu_drew (cu_alloc (cu_alloc hc0))) (fun e => ha e.symm); have k1 := hg2.cell (a := ⟨g, 1, none⟩) (cu_drew (cu_alloc (cu_alloc hc1))) (fun e => ha e.symm); have k2 := hg2.frozen_far ⟨g, 1, none⟩ (by simp; omega) (fun e => ha e.symm); rw [fu_drew (fu_alloc (fu_alloc hf1))] at k2))
  all_goals
    obtain ⟨hA, hK⟩ := hH'.out.grew own2 hg2 hat
    have hgb : (Value.slice a0 n c0).ownBlock = some gs ∨ w.heap.size ≤ gs := by rcases hat with e | e; exact .inl e; right; omega
    go_wp2_with fail
    generalize (w2.setCell ⟨g, 1, none⟩ (.slice (some ⟨gs, 0, none⟩) (n + 1) cap')) = W at hA hK ⊢
    replace hA := hide hA
    replace hK := hide hK
    have hgs := hA.out.own.at_base
    clear own2 hg2 hat hlt2 k0 k1 k2 hown hblk hH' hi hz0 hz1 hz2 ha
    go_loopw [4] (fun i wr => ∃ (k : Nat) (f' : Nat → Ed), k < n + 1 ∧ i = .int .i64 k ∧ Hid (HeapS wr base g (.func (.func 117) #[] #[]) (.slice (some ⟨gs, 0, none⟩) (n + 1) cap') (n + 1) f') ∧ Hid (siftUp spLt f' k = siftUp spLt (upz f n p) n) ∧ Hid (Keep (fun k => k = g ∨ (Value.slice a0 n c0).ownBlock = some k) w wr)) (fun i _ => (intOf i).toNat)
    case atStart => exact ⟨n, upz f n p, by omega, by go_num, hA, rfl, hK⟩
    case round =>
      obtain ⟨k, f', hk, rfl, hA, hS, hK⟩ := hrel
      by_cases h0 : k = 0
      · subst h0
        go_wp2
        go_end0
        refine ⟨rfl, gs, cap', ?_, hK.out, hgb⟩
        rw [← hS.out, siftUp_top]
        exact hA.out
      · obtain ⟨j, hj⟩ : ∃ j, j = (k - 1) / 2 := ⟨_, rfl⟩
        have hjk : j < k := by omega
        have hq : ((k : Int) - 1) / 2 = (j : Int) := by omega
        have hk0 : (0 : Int) < (k : Int) := by omega
        obtain ⟨ca, cb, cx⟩ := hA.out.cells k hk
        obtain ⟨da, db, dx⟩ := hA.out.cells j (by omega)
        have c0 := hA.out.c0
        have c1 := hA.out.c1
        have hglt := hA.out.lt
        have hgs' := hA.out.own.at_base
        have ff := hA.out.frees
        replace hj := hide hj
        have key := hide (show ∀ w', Below wr.heap.size wr w' → (Below wr.heap.size wr w' ∧ w'.cell? ⟨g, 0, none⟩ = some (.func (.func 117) #[] #[]) ∧ w'.cell? ⟨g, 1, none⟩ = some (.slice (some ⟨gs, 0, none⟩) (n + 1) cap') ∧ w'.cell? ⟨gs, k * 3, none⟩ = some (.int .i64 (f' k).u) ∧ w'.cell? ⟨gs, k * 3 + 1, none⟩ = some (.int .i64 (f' k).v) ∧ w'.cell? ⟨gs, k * 3 + 2, none⟩ = some (.int .i64 (f' k).c) ∧ w'.cell? ⟨gs, j * 3, none⟩ = some (.int .i64 (f' j).u) ∧ w'.cell? ⟨gs, j * 3 + 1, none⟩ = some (.int .i64 (f' j).v) ∧ w'.cell? ⟨gs, j * 3 + 2, none⟩ = some (.int .i64 (f' j).c)) from
          fun w' hb => ⟨hb, cu_below hb c0 hglt, cu_below hb c1 hglt, cu_below hb ca hgs'.2, cu_below hb cb hgs'.2, cu_below hb cx hgs'.2, cu_below hb da hgs'.2, cu_below hb db hgs'.2, cu_below hb dx hgs'.2⟩)
        go_wp2
        simp only [hq]
        clear hq
        have ik : (0 : Int) ≤ (k : Int) ∧ (k : Int) < (n : Int) + 1 := by omega
        have ij : (0 : Int) ≤ (j : Int) ∧ (j : Int) < (n : Int) + 1 := by omega
        have ik2 : (k : Int) < ((n + 1 : Nat) : Int) := by omega
        have ij2 : (j : Int) < ((n + 1 : Nat) : Int) := by omega
        have hsv := (‹_ ∧ _› : base ≤ gs ∧ gs < W.heap.size)
        clear hgs
        have hC0 := hide (lessS_any (f' k) (f' j))
        obtain ⟨b, hb⟩ : ∃ b, b = spLt (f' k) (f' j) := ⟨_, rfl⟩
        rw [← hb] at hC0
        replace hb := hide hb
        cases b
        all_goals
          have hC := hide hC0.out
          clear hC0
          go_region_held3 (fun w' => Below wr.heap.size wr w' ∧ w'.cell? ⟨g, 0, none⟩ = some (.func (.func 117) #[] #[]) ∧ w'.cell? ⟨g, 1, none⟩ = some (.slice (some ⟨gs, 0, none⟩) (n + 1) cap') ∧ w'.cell? ⟨gs, k * 3, none⟩ = some (.int .i64 (f' k).u) ∧ w'.cell? ⟨gs, k * 3 + 1, none⟩ = some (.int .i64 (f' k).v) ∧ w'.cell? ⟨gs, k * 3 + 2, none⟩ = some (.int .i64 (f' k).c) ∧ w'.cell? ⟨gs, j * 3, none⟩ = some (.int .i64 (f' j).u) ∧ w'.cell? ⟨gs, j * 3 + 1, none⟩ = some (.int .i64 (f' j).v) ∧ w'.cell? ⟨gs, j * 3 + 2, none⟩ = some (.int .i64 (f' j).c))
            (first | exact key.out _ (below_drew _) | exact key.out _ (by assumption))
            (first | (go_at_call 117; refine (hC.out _).mono ?_; rintro e w4 ⟨rfl, hb5⟩; have hb6 := below_step (‹Below wr.heap.size wr _ ∧ _› : _ ∧ _).1 hb5))
          all_goals
            have hb7 := (‹Below wr.heap.size wr w4 ∧ _› : _ ∧ _).1
            have hA4 := hide (hA.out.stays hb7)
            have hK4 := hide (hK.out.trans (Keep.new hb7))
            have hz4 := hb7.size
            obtain ⟨ca4, cb4, cx4⟩ := hA4.out.cells k hk
            obtain ⟨da4, db4, dx4⟩ := hA4.out.cells j (by omega)
            have c04 := hA4.out.c0
            have c14 := hA4.out.c1
            have ff4 := hA4.out.frees
            clear ca cb cx da db dx c0 c1 ff key hC hA hK hb5 hb6
            first
              | (go_wp2
                 go_end0
                 refine ⟨rfl, gs, cap', ?_, hK4.out, hgb⟩
                 rw [← hS.out, siftUp_stop (by omega) (by rw [← hj.out]; exact hb.out.symm)]
                 exact hA4.out)
              | (go_wp2
                 have ffk := ff4 (k * 3)
                 have ffk1 := ff4 (k * 3 + 1)
                 have ffk2 := ff4 (k * 3 + 2)
                 have ffj := ff4 (j * 3)
                 have ffj1 := ff4 (j * 3 + 1)
                 have ffj2 := ff4 (j * 3 + 2)
                 clear ff4
                 go_region
                 go_wp2
                 have hsw := hide (hA4.out.swap hk (show j < n + 1 by omega))
                 have hgo := siftUp_go (lt := spLt) (f := f') (i := k) (by omega) (by rw [← hj.out]; exact hb.out.symm)
                 rw [← hj.out] at hgo
                 replace hgo := hide hgo
                 have hsp : (fun k => k = g ∨ (Value.slice a0 n c0).ownBlock = some k) gs ∨ w.heap.size ≤ gs := hgb.imp .inr id
                 go_roundw
                 case rel =>
                   refine ⟨j, swf f' k j, by omega, by go_num, hide ?_, hide ?_, hide ?_⟩
                   · first | exact hsw.out.drew | exact hsw.out.drewN _
                   · rw [← hS.out]; exact hgo.out.symm
                   · first | exact ((((((hK4.out.setCell hsp _).setCell hsp _).setCell hsp _).setCell hsp _).setCell hsp _).setCell hsp _).drew | exact ((((((hK4.out.setCell hsp _).setCell hsp _).setCell hsp _).setCell hsp _).setCell hsp _).setCell hsp _).drewN _
                 case measure => simp [intOf]; omega)
end Go.Proofs.Ytcehdpeeaogpiaa

/-! heap.Pop over spots. Conditions: at least one, bounds on the length. -/
namespace Go.Proofs.Ytcehdpeeaogpiaa
open Go.RowKit
set_option linter.unusedSimpArgs false
set_option linter.unusedVariables false
/-- the last put first -/
theorem HeapS.lastFirst {w : World} {base g n gs c : Nat} {lf : Value} {f : Nat → Ed} (h : HeapS w base g lf (.slice (some ⟨gs, 0, none⟩) (n + 1) c) (n + 1) f) :
    HeapS ((((w.setCell ⟨gs, 0, none⟩ (.int .i64 (f n).u)).setCell ⟨gs, 1, none⟩ (.int .i64 (f n).v)).setCell ⟨gs, 2, none⟩ (.int .i64 (f n).c)).setCell ⟨g, 1, none⟩ (.slice (some ⟨gs, 0, none⟩) n c)) base g lf (.slice (some ⟨gs, 0, none⟩) n c) n (upz f 0 (f n)) := by
  have hne : gs ≠ g := fun e => h.ap (by rw [e]; rfl)
  have h1 := h.own.putS 0 (by rw [rw_len]; omega) (f n)
  rw [rw_set, rw_snoc] at h1
  have h2 := h1.shrink lenE
  have hng : ¬ (g = gs) := fun e => hne e.symm
  have kp := hide ((((Keep.refl (fun k => k = gs) w).setCell (p := ⟨gs, 0, none⟩) (.inl rfl) (.int .i64 (f n).u)).setCell (p := ⟨gs, 1, none⟩) (.inl rfl) (.int .i64 (f n).v)).setCell (p := ⟨gs, 2, none⟩) (.inl rfl) (.int .i64 (f n).c))
  have h3 : Own encE 3 161 (((w.setCell ⟨gs, 0, none⟩ (.int .i64 (f n).u)).setCell ⟨gs, 1, none⟩ (.int .i64 (f n).v)).setCell ⟨gs, 2, none⟩ (.int .i64 (f n).c)) base (.slice (some ⟨gs, 0, none⟩) n c) (RW n (upz f 0 (f n))) := by
    simpa using h2
  replace h3 := hide h3
  replace kp := kp.out
  refine ⟨h.bg, ?_, ?_, ?_, ?_, h3.out.elsewhere (by simp [Value.ownBlock]; exact hne) _, by simp [Value.ownBlock]; exact hne⟩
  · have := Nat.lt_of_lt_of_le h.lt kp.size; simpa using this
  · exact cu_set_off (kp.cu h.c0 hng) (by omega)
  · exact World.cell?_setCell_same _ _ _ (kp.cu h.c1 hng)
  · exact fu_set ((kp.frozen (p := ⟨g, 1, none⟩) h.lt hng).trans h.f1)
/-- what Pop hands back and keeps -/
def PoppedS (w : World) (base g gs c : Nat) (lf : Value) (n : Nat) (f : Nat → Ed) (p : Ed) (e : Ending) (w' : World) : Prop :=
  e = .returned (.agg #[.int .i64 p.u, .int .i64 p.v, .int .i64 p.c]) ∧ HeapS w' base g lf (.slice (some ⟨gs, 0, none⟩) n c) n f ∧ Keep (fun k => k = g ∨ k = gs) w w'
/-- what holds while Pop sifts down -/
structure PopS (w : World) (base g gs c : Nat) (lf : Value) (n : Nat) (f : Nat → Ed) (p : Ed) (wr : World) : Prop where
  at' : HeapS wr base g lf (.slice (some ⟨gs, 0, none⟩) n c) n f
  keep : Keep (fun k => k = g ∨ k = gs) w wr
  oa : wr.cell? ⟨w.heap.size + 1, 0, none⟩ = some (.int .i64 p.u)
  ob : wr.cell? ⟨w.heap.size + 1, 1, none⟩ = some (.int .i64 p.v)
  ox : wr.cell? ⟨w.heap.size + 1, 2, none⟩ = some (.int .i64 p.c)
  ra : wr.cell? ⟨w.heap.size, 0, none⟩ = some (.int .i64 0)
  rb : wr.cell? ⟨w.heap.size, 1, none⟩ = some (.int .i64 0)
  rx : wr.cell? ⟨w.heap.size, 2, none⟩ = some (.int .i64 0)
  fa : wr.frozen? ⟨w.heap.size, 0, none⟩ = false
  fb : wr.frozen? ⟨w.heap.size, 1, none⟩ = false
  fx : wr.frozen? ⟨w.heap.size, 2, none⟩ = false
  old : gs < w.heap.size
theorem PopS.lt {w : World} {base g gs c n : Nat} {lf : Value} {f : Nat → Ed} {p : Ed} {wr : World} (h : PopS w base g gs c lf n f p wr) : w.heap.size + 1 < wr.heap.size := cell_lt h.oa
theorem PopS.stays {w : World} {base g gs c n : Nat} {lf : Value} {f : Nat → Ed} {p : Ed} {wr w' : World} (h : PopS w base g gs c lf n f p wr) (k : Below wr.heap.size wr w') : PopS w base g gs c lf n f p w' :=
  have hl := h.lt
  ⟨h.at'.stays k, h.keep.trans (Keep.new k), cu_below k h.oa hl, cu_below k h.ob hl, cu_below k h.ox hl, cu_below k h.ra (by simp; omega), cu_below k h.rb (by simp; omega), cu_below k h.rx (by simp; omega), fu_below k h.fa (by simp; omega), fu_below k h.fb (by simp; omega), fu_below k h.fx (by simp; omega), h.old⟩
theorem PopS.drew {w : World} {base g gs c n : Nat} {lf : Value} {f : Nat → Ed} {p : Ed} {wr : World} (h : PopS w base g gs c lf n f p wr) : PopS w base g gs c lf n f p wr.drew := h.stays (below_drew _)
theorem PopS.drewN {w : World} {base g gs c n : Nat} {lf : Value} {f : Nat → Ed} {p : Ed} {wr : World} (h : PopS w base g gs c lf n f p wr) (m : Nat) : PopS w base g gs c lf n f p (wr.drewN m) := by
  induction m with
  | zero => exact h
  | succ m ih => exact ih.drew
theorem PopS.swap {w : World} {base g gs c n : Nat} {lf : Value} {f : Nat → Ed} {p : Ed} {wr : World} (h : PopS w base g gs c lf n f p wr) {i k : Nat} (hi : i < n) (hk : k < n) :
    PopS w base g gs c lf n (swf f i k) p ((((((wr.setCell ⟨gs, i * 3, none⟩ (.int .i64 (f k).u)).setCell ⟨gs, i * 3 + 1, none⟩ (.int .i64 (f k).v)).setCell ⟨gs, i * 3 + 2, none⟩ (.int .i64 (f k).c)).setCell ⟨gs, k * 3, none⟩ (.int .i64 (f i).u)).setCell ⟨gs, k * 3 + 1, none⟩ (.int .i64 (f i).v)).setCell ⟨gs, k * 3 + 2, none⟩ (.int .i64 (f i).c)) := by
  have ho := h.old
  have hs : ∀ {b o : Nat} {v u : Value} {wx : World} {q : Nat}, w.heap.size ≤ b → wx.cell? ⟨b, o, none⟩ = some v → (wx.setCell ⟨gs, q, none⟩ u).cell? ⟨b, o, none⟩ = some v := fun hb hc => cu_set hc (by simp; omega)
  have h6 : ∀ {b o : Nat} {v u1 u2 u3 u4 u5 u6 : Value} {wx : World} {q1 q2 q3 q4 q5 q6 : Nat}, w.heap.size ≤ b → wx.cell? ⟨b, o, none⟩ = some v → ((((((wx.setCell ⟨gs, q1, none⟩ u1).setCell ⟨gs, q2, none⟩ u2).setCell ⟨gs, q3, none⟩ u3).setCell ⟨gs, q4, none⟩ u4).setCell ⟨gs, q5, none⟩ u5).setCell ⟨gs, q6, none⟩ u6).cell? ⟨b, o, none⟩ = some v := fun hb hc => hs hb (hs hb (hs hb (hs hb (hs hb (hs hb hc)))))
  have hn : (fun k => k = g ∨ k = gs) gs ∨ w.heap.size ≤ gs := .inl (.inr rfl)
  exact ⟨h.at'.swap hi hk, (((((h.keep.setCell (p := ⟨gs, i * 3, none⟩) hn _).setCell (p := ⟨gs, i * 3 + 1, none⟩) hn _).setCell (p := ⟨gs, i * 3 + 2, none⟩) hn _).setCell (p := ⟨gs, k * 3, none⟩) hn _).setCell (p := ⟨gs, k * 3 + 1, none⟩) hn _).setCell (p := ⟨gs, k * 3 + 2, none⟩) hn _,
    h6 (by omega) h.oa, h6 (by omega) h.ob, h6 (by omega) h.ox, h6 (by omega) h.ra, h6 (by omega) h.rb, h6 (by omega) h.rx,
    fu_set (fu_set (fu_set (fu_set (fu_set (fu_set h.fa))))), fu_set (fu_set (fu_set (fu_set (fu_set (fu_set h.fb))))), fu_set (fu_set (fu_set (fu_set (fu_set (fu_set h.fx))))), ho⟩
theorem PopS.start {w : World} {base g gs c n : Nat} {lf : Value} {f : Nat → Ed} (h : HeapS w base g lf (.slice (some ⟨gs, 0, none⟩) (n + 1) c) (n + 1) f) (p : Ed) {t1 t2 : TypeId} :
    PopS w base g gs c lf n (upz f 0 (f n)) p ((((((w.setCell ⟨gs, 0, none⟩ (.int .i64 (f n).u)).setCell ⟨gs, 1, none⟩ (.int .i64 (f n).v)).setCell ⟨gs, 2, none⟩ (.int .i64 (f n).c)).setCell ⟨g, 1, none⟩ (.slice (some ⟨gs, 0, none⟩) n c)).alloc (.cells #[.int .i64 0, .int .i64 0, .int .i64 0] t1)).alloc (.cells #[.int .i64 p.u, .int .i64 p.v, .int .i64 p.c] t2)).drew := by
  have hg := h.lt
  have hgs := h.own.at_base
  have h2 := (h.lastFirst.alloc (.cells #[.int .i64 0, .int .i64 0, .int .i64 0] t1)).alloc (.cells #[.int .i64 p.u, .int .i64 p.v, .int .i64 p.c] t2)
  have hk : Keep (fun k => k = g ∨ k = gs) w ((((w.setCell ⟨gs, 0, none⟩ (.int .i64 (f n).u)).setCell ⟨gs, 1, none⟩ (.int .i64 (f n).v)).setCell ⟨gs, 2, none⟩ (.int .i64 (f n).c)).setCell ⟨g, 1, none⟩ (.slice (some ⟨gs, 0, none⟩) n c)) :=
    ((((Keep.refl _ w).setCell (p := ⟨gs, 0, none⟩) (.inl (.inr rfl)) _).setCell (p := ⟨gs, 1, none⟩) (.inl (.inr rfl)) _).setCell (p := ⟨gs, 2, none⟩) (.inl (.inr rfl)) _).setCell (p := ⟨g, 1, none⟩) (.inl (.inl rfl)) _
  have hz : ((((w.setCell ⟨gs, 0, none⟩ (.int .i64 (f n).u)).setCell ⟨gs, 1, none⟩ (.int .i64 (f n).v)).setCell ⟨gs, 2, none⟩ (.int .i64 (f n).c)).setCell ⟨g, 1, none⟩ (.slice (some ⟨gs, 0, none⟩) n c)).heap.size = w.heap.size := by simp
  generalize ((((w.setCell ⟨gs, 0, none⟩ (.int .i64 (f n).u)).setCell ⟨gs, 1, none⟩ (.int .i64 (f n).v)).setCell ⟨gs, 2, none⟩ (.int .i64 (f n).c)).setCell ⟨g, 1, none⟩ (.slice (some ⟨gs, 0, none⟩) n c)) = W at h2 hk hz ⊢
  refine ⟨h2.drew, ?_, ?_, ?_, ?_, ?_, ?_, ?_, ?_, ?_, ?_, hgs.2⟩
  · exact ((hk.alloc _).alloc _).drew
  all_goals rw [← hz]
  · exact cu_drew (by simp [go_sem])
  · exact cu_drew (by simp [go_sem])
  · exact cu_drew (by simp [go_sem])
  · exact cu_drew (cu_alloc (by simp [go_sem]))
  · exact cu_drew (cu_alloc (by simp [go_sem]))
  · exact cu_drew (cu_alloc (by simp [go_sem]))
  · exact fu_drew (fu_alloc (by simp [go_sem]))
  · exact fu_drew (fu_alloc (by simp [go_sem]))
  · exact fu_drew (fu_alloc (by simp [go_sem]))
/-- the result stored -/
theorem PopS.done {w : World} {base g gs c n : Nat} {lf : Value} {f : Nat → Ed} {p : Ed} {wr : World} (h : PopS w base g gs c lf n f p wr) :
    HeapS (((wr.setCell ⟨w.heap.size, 0, none⟩ (.int .i64 p.u)).setCell ⟨w.heap.size, 1, none⟩ (.int .i64 p.v)).setCell ⟨w.heap.size, 2, none⟩ (.int .i64 p.c)) base g lf (.slice (some ⟨gs, 0, none⟩) n c) n f ∧
    Keep (fun k => k = g ∨ k = gs) w (((wr.setCell ⟨w.heap.size, 0, none⟩ (.int .i64 p.u)).setCell ⟨w.heap.size, 1, none⟩ (.int .i64 p.v)).setCell ⟨w.heap.size, 2, none⟩ (.int .i64 p.c)) := by
  have ho := h.old
  have kp := (((Keep.refl (fun k => k = w.heap.size) wr).setCell (p := ⟨w.heap.size, 0, none⟩) (.inl rfl) (.int .i64 p.u)).setCell (p := ⟨w.heap.size, 1, none⟩) (.inl rfl) (.int .i64 p.v)).setCell (p := ⟨w.heap.size, 2, none⟩) (.inl rfl) (.int .i64 p.c)
  refine ⟨h.at'.keep kp ?_ (fun k hk => ?_), ((h.keep.setCell (.inr (Nat.le_refl _)) _).setCell (.inr (Nat.le_refl _)) _).setCell (.inr (Nat.le_refl _)) _⟩
  · intro e
    have h2 := h.at'.c1
    have h4 := h.rb
    rw [e] at h2
    rw [h4] at h2
    cases h2
  · simp [Value.ownBlock] at hk
    omega
set_option maxRecDepth 100000 in
set_option maxHeartbeats 4000000 in
theorem popS_any (base g n gs c0 : Nat) (f : Nat → Ed) (w : World) (hH : HeapS w base g (.func (.func 117) #[] #[]) (.slice (some ⟨gs, 0, none⟩) (n + 1) c0) (n + 1) f) (hn : n ≤ 100000000000) :
    Calls Try.prog 187 #[.pointer (some ⟨g, 0, none⟩)] w (PoppedS w base g gs c0 (.func (.func 117) #[] #[]) n (siftDown spLt n (upz f 0 (f n)) 0) (f 0)) := by
  have hg := hH.lt
  have hbg := hH.bg
  have hgs := hH.own.at_base
  have hne : gs ≠ g := fun e => hH.ap (by rw [e]; rfl)
  have hne2 : g ≠ gs := fun e => hne e.symm
  have k0 := hH.c0
  have k1 := hH.c1
  have f1 := hH.f1
  obtain ⟨ca, cb, cx⟩ := hH.cells 0 (by omega)
  obtain ⟨da, db, dx⟩ := hH.cells n (by omega)
  have fa := hH.frees 0
  have fb := hH.frees (0 + 1)
  have fx := hH.frees (0 + 2)
  simp only [Nat.zero_mul] at ca cb cx
  have icap : n ≤ c0 := by
    rcases hH.own.2 with ⟨h1, _⟩ | ⟨g', cap, cur, h1, h2, h3, h4, h5, h6, h7⟩
    · cases h1
    · simp only [Value.slice.injEq] at h1
      obtain ⟨_, _, rfl⟩ := h1
      rw [rw_len] at h4
      omega
  go_enter Try.func187, Try.ntmps187
  have hH' := hide hH
  clear hH
  have in0 : (0 : Int) ≤ (n : Int) ∧ (n : Int) < (n : Int) + 1 := by omega
  have hI := hide (PopS.start hH'.out (f 0) (t1 := 161) (t2 := 161))
  go_wp2
  go_region
  go_wp2_with fail
  generalize ((((((w.setCell ⟨gs, 0, none⟩ (.int .i64 (f n).u)).setCell ⟨gs, 1, none⟩ (.int .i64 (f n).v)).setCell ⟨gs, 2, none⟩ (.int .i64 (f n).c)).setCell ⟨g, 1, none⟩ (.slice (some ⟨gs, 0, none⟩) n c0)).alloc (.cells #[.int .i64 0, .int .i64 0, .int .i64 0] 161)).alloc (.cells #[.int .i64 (f 0).u, .int .i64 (f 0).v, .int .i64 (f 0).c] 161)).drew = W1 at hI ⊢
  clear k0 k1 f1 da db dx fa fb fx ca cb cx hH' in0 icap
  go_loopw [5] (fun i wr => ∃ (k : Nat) (f' : Nat → Ed), (k < n ∨ k = 0) ∧ i = .int .i64 k ∧ Hid (PopS w base g gs c0 (.func (.func 117) #[] #[]) n f' (f 0) wr) ∧ Hid (siftDown spLt n f' k = siftDown spLt n (upz f 0 (f n)) 0)) (fun i _ => n - (intOf i).toNat)
  case atStart => exact ⟨0, _, by omega, rfl, hI, rfl⟩
  case round =>
    obtain ⟨i, f', hk, rfl, hI, hS⟩ := hrel
    have hi6 : i ≤ 100000000000 := by omega
    by_cases hlt : 2 * i + 1 < n
    · obtain ⟨m, hm⟩ : ∃ m, m = 2 * i + 1 := ⟨_, rfl⟩
      have hq := hide (show 2 * (i : Int) + 1 = (m : Int) by omega)
      have hm' := hide hm
      have hmn : m < n := by omega
      have hmn2 : (m : Int) < (n : Int) := by omega
      have hkd := hide (kid_is (lt := spLt) n f' i hlt)
      obtain ⟨ma, mb, mx⟩ := hI.out.at'.cells m hmn
      have k0 := hI.out.at'.c0
      have k1 := hI.out.at'.c1
      have hgl := hI.out.at'.lt
      have hgsl := hI.out.at'.own.at_base.2
      by_cases hlt2 : m + 1 < n
      · obtain ⟨na, nb, nx⟩ := hI.out.at'.cells (m + 1) hlt2
        have im1 : IntKind.i64.wrap ((m : Int) + 1) = (m : Int) + 1 := IntWalk.i64_in _ (by omega)
        have im2 : (0 : Int) ≤ (m : Int) + 1 ∧ (m : Int) + 1 < (n : Int) := by omega
        have im3 : ((m : Int) + 1).toNat = m + 1 := by omega
        have im4 : decide ((m : Int) + 1 < (n : Int)) = true := by simp; omega
        have hC0 := hide (lessS_any (f' (m + 1)) (f' m))
        obtain ⟨b, hb⟩ : ∃ b, b = spLt (f' (m + 1)) (f' m) := ⟨_, rfl⟩
        rw [← hb] at hC0
        replace hb := hide hb
        have key := hide (show ∀ w', Below wr.heap.size wr w' → (Below wr.heap.size wr w' ∧ w'.cell? ⟨g, 0, none⟩ = some (.func (.func 117) #[] #[]) ∧ w'.cell? ⟨g, 1, none⟩ = some (.slice (some ⟨gs, 0, none⟩) n c0) ∧ w'.cell? ⟨gs, m * 3, none⟩ = some (.int .i64 (f' m).u) ∧ w'.cell? ⟨gs, m * 3 + 1, none⟩ = some (.int .i64 (f' m).v) ∧ w'.cell? ⟨gs, m * 3 + 2, none⟩ = some (.int .i64 (f' m).c) ∧ w'.cell? ⟨gs, (m + 1) * 3, none⟩ = some (.int .i64 (f' (m + 1)).u) ∧ w'.cell? ⟨gs, (m + 1) * 3 + 1, none⟩ = some (.int .i64 (f' (m + 1)).v) ∧ w'.cell? ⟨gs, (m + 1) * 3 + 2, none⟩ = some (.int .i64 (f' (m + 1)).c)) from
          fun w' hb => ⟨hb, cu_below hb k0 hgl, cu_below hb k1 hgl, cu_below hb ma hgsl, cu_below hb mb hgsl, cu_below hb mx hgsl, cu_below hb na hgsl, cu_below hb nb hgsl, cu_below hb nx hgsl⟩)
        replace im1 := hide im1
        replace im3 := hide im3
        clear hm
        go_wp2
        replace hq := hq.out
        simp only [hq]
        clear hq
        replace im1 := im1.out
        replace im3 := im3.out
        go_region_held3 (fun w' => Below wr.heap.size wr w' ∧ w'.cell? ⟨g, 0, none⟩ = some (.func (.func 117) #[] #[]) ∧ w'.cell? ⟨g, 1, none⟩ = some (.slice (some ⟨gs, 0, none⟩) n c0) ∧ w'.cell? ⟨gs, m * 3, none⟩ = some (.int .i64 (f' m).u) ∧ w'.cell? ⟨gs, m * 3 + 1, none⟩ = some (.int .i64 (f' m).v) ∧ w'.cell? ⟨gs, m * 3 + 2, none⟩ = some (.int .i64 (f' m).c) ∧ w'.cell? ⟨gs, (m + 1) * 3, none⟩ = some (.int .i64 (f' (m + 1)).u) ∧ w'.cell? ⟨gs, (m + 1) * 3 + 1, none⟩ = some (.int .i64 (f' (m + 1)).v) ∧ w'.cell? ⟨gs, (m + 1) * 3 + 2, none⟩ = some (.int .i64 (f' (m + 1)).c))
          (first | exact key.out _ (below_drew _) | exact key.out _ (by assumption))
          (first | (go_at_call 117; refine (hC0.out _).mono ?_; rintro e w4 ⟨rfl, hb5⟩; have hb6 := below_step (‹Below wr.heap.size wr _ ∧ _› : _ ∧ _).1 hb5))
        have hI4 := hide (hI.out.stays (‹Below wr.heap.size wr w4 ∧ _› : _ ∧ _).1)
        obtain ⟨wq, rfl⟩ : ∃ wq : World, wq = w4 := ⟨_, rfl⟩
        clear key hC0 hb5 hb6 ma mb mx na nb nx k0 k1 hgl hgsl im1 im3 im4
        cases b
        · have hkid := hide (show m = kid spLt n f' i by unfold kid; rw [← hm'.out, if_neg (by rw [← hb.out]; simp)])
          obtain ⟨k, rfl⟩ : ∃ k, k = m := ⟨_, rfl⟩
          have hkn := hmn
          have hik : i < k := by have := hm'.out; omega
          clear im2
          go_wp2
          obtain ⟨ka, kb, kx⟩ := hI4.out.at'.cells k hkn
          obtain ⟨ia, ib, ix⟩ := hI4.out.at'.cells i (by omega)
          have k0 := hI4.out.at'.c0
          have k1 := hI4.out.at'.c1
          have hgl := hI4.out.at'.lt
          have hgsl := hI4.out.at'.own.at_base.2
          have ik : (0 : Int) ≤ (k : Int) ∧ (k : Int) < (n : Int) := by omega
          have ii : (0 : Int) ≤ (i : Int) ∧ (i : Int) < (n : Int) := by omega
          have hC0 := hide (lessS_any (f' k) (f' i))
          obtain ⟨b2, hb2⟩ : ∃ b, b = spLt (f' k) (f' i) := ⟨_, rfl⟩
          rw [← hb2] at hC0
          replace hb2 := hide hb2
          have key := hide (show ∀ w', Below wq.heap.size wq w' → (Below wq.heap.size wq w' ∧ w'.cell? ⟨g, 0, none⟩ = some (.func (.func 117) #[] #[]) ∧ w'.cell? ⟨g, 1, none⟩ = some (.slice (some ⟨gs, 0, none⟩) n c0) ∧ w'.cell? ⟨gs, k * 3, none⟩ = some (.int .i64 (f' k).u) ∧ w'.cell? ⟨gs, k * 3 + 1, none⟩ = some (.int .i64 (f' k).v) ∧ w'.cell? ⟨gs, k * 3 + 2, none⟩ = some (.int .i64 (f' k).c) ∧ w'.cell? ⟨gs, i * 3, none⟩ = some (.int .i64 (f' i).u) ∧ w'.cell? ⟨gs, i * 3 + 1, none⟩ = some (.int .i64 (f' i).v) ∧ w'.cell? ⟨gs, i * 3 + 2, none⟩ = some (.int .i64 (f' i).c)) from
            fun w' hb => ⟨hb, cu_below hb k0 hgl, cu_below hb k1 hgl, cu_below hb ka hgsl, cu_below hb kb hgsl, cu_below hb kx hgsl, cu_below hb ia hgsl, cu_below hb ib hgsl, cu_below hb ix hgsl⟩)
          go_region_held3 (fun w' => Below wq.heap.size wq w' ∧ w'.cell? ⟨g, 0, none⟩ = some (.func (.func 117) #[] #[]) ∧ w'.cell? ⟨g, 1, none⟩ = some (.slice (some ⟨gs, 0, none⟩) n c0) ∧ w'.cell? ⟨gs, k * 3, none⟩ = some (.int .i64 (f' k).u) ∧ w'.cell? ⟨gs, k * 3 + 1, none⟩ = some (.int .i64 (f' k).v) ∧ w'.cell? ⟨gs, k * 3 + 2, none⟩ = some (.int .i64 (f' k).c) ∧ w'.cell? ⟨gs, i * 3, none⟩ = some (.int .i64 (f' i).u) ∧ w'.cell? ⟨gs, i * 3 + 1, none⟩ = some (.int .i64 (f' i).v) ∧ w'.cell? ⟨gs, i * 3 + 2, none⟩ = some (.int .i64 (f' i).c))
            (first | exact key.out _ (below_drew _) | exact key.out _ (by assumption))
            (first | (go_at_call 117; refine (hC0.out _).mono ?_; rintro e w5 ⟨rfl, hb5⟩; have hb6 := below_step (‹Below wq.heap.size wq _ ∧ _› : _ ∧ _).1 hb5))
          have hI5 := hide (hI4.out.stays (‹Below wq.heap.size wq w5 ∧ _› : _ ∧ _).1)
          clear key hC0 hb5 hb6 ka kb kx ia ib ix k0 k1 hI4 hgl hgsl
          cases b2
          · have hoa := hI5.out.oa
            have hob := hI5.out.ob
            have hox := hI5.out.ox
            have hra := hI5.out.ra
            have hrb := hI5.out.rb
            have hrx := hI5.out.rx
            have hfa := hI5.out.fa
            have hfb := hI5.out.fb
            have hfx := hI5.out.fx
            have hz := hI5.out.lt
            have hD := hide hI5.out.done
            go_wp2
            refine bodyPost_ret (v := .agg #[.int .i64 (f 0).u, .int .i64 (f 0).v, .int .i64 (f 0).c]) (by simp [results, Try.results187, go_sem, hra, hrb, hrx, hz]) rfl ⟨rfl, ?_, hD.out.2⟩
            rw [← hS.out, siftDown_stop hlt (by rw [← hkid.out]; exact hb2.out.symm)]
            exact hD.out.1
          · obtain ⟨ka, kb, kx⟩ := hI5.out.at'.cells k hkn
            obtain ⟨ia, ib, ix⟩ := hI5.out.at'.cells i (by omega)
            have k0 := hI5.out.at'.c0
            have k1 := hI5.out.at'.c1
            have hgl := hI5.out.at'.lt
            have hgsl := hI5.out.at'.own.at_base.2
            have ffk := hI5.out.at'.frees (k * 3)
            have ffk1 := hI5.out.at'.frees (k * 3 + 1)
            have ffk2 := hI5.out.at'.frees (k * 3 + 2)
            have ffi := hI5.out.at'.frees (i * 3)
            have ffi1 := hI5.out.at'.frees (i * 3 + 1)
            have ffi2 := hI5.out.at'.frees (i * 3 + 2)
            go_wp2
            go_region
            go_wp2
            have hsw := hide (hI5.out.swap (show i < n by omega) hkn)
            have hgo := siftDown_go (lt := spLt) (n := n) (f := f') (i := i) hlt (by rw [← hkid.out]; exact hb2.out.symm)
            rw [← hkid.out] at hgo
            replace hgo := hide hgo
            go_roundw
            case rel =>
              refine ⟨k, swf f' i k, by omega, by go_num, hide ?_, hide ?_⟩
              · first | exact hsw.out.drew | exact hsw.out.drewN _
              · rw [← hS.out]; exact hgo.out.symm
            case measure => simp [intOf]; omega
        · obtain ⟨k, hk1⟩ : ∃ k, k = m + 1 := ⟨_, rfl⟩
          have hkid := hide (show k = kid spLt n f' i by unfold kid; rw [← hm'.out, if_pos ⟨hlt2, by rw [← hb.out]⟩, hk1])
          have hkn : k < n := by omega
          have hik : i < k := by have := hm'.out; omega
          have hq2 := hide (show (m : Int) + 1 = (k : Int) by omega)
          replace hk1 := hide hk1
          go_wp2
          simp only [hq2.out]
          obtain ⟨ka, kb, kx⟩ := hI4.out.at'.cells k hkn
          obtain ⟨ia, ib, ix⟩ := hI4.out.at'.cells i (by omega)
          have k0 := hI4.out.at'.c0
          have k1 := hI4.out.at'.c1
          have hgl := hI4.out.at'.lt
          have hgsl := hI4.out.at'.own.at_base.2
          have ik : (0 : Int) ≤ (k : Int) ∧ (k : Int) < (n : Int) := by omega
          have ii : (0 : Int) ≤ (i : Int) ∧ (i : Int) < (n : Int) := by omega
          have hC0 := hide (lessS_any (f' k) (f' i))
          obtain ⟨b2, hb2⟩ : ∃ b, b = spLt (f' k) (f' i) := ⟨_, rfl⟩
          rw [← hb2] at hC0
          replace hb2 := hide hb2
          have key := hide (show ∀ w', Below wq.heap.size wq w' → (Below wq.heap.size wq w' ∧ w'.cell? ⟨g, 0, none⟩ = some (.func (.func 117) #[] #[]) ∧ w'.cell? ⟨g, 1, none⟩ = some (.slice (some ⟨gs, 0, none⟩) n c0) ∧ w'.cell? ⟨gs, k * 3, none⟩ = some (.int .i64 (f' k).u) ∧ w'.cell? ⟨gs, k * 3 + 1, none⟩ = some (.int .i64 (f' k).v) ∧ w'.cell? ⟨gs, k * 3 + 2, none⟩ = some (.int .i64 (f' k).c) ∧ w'.cell? ⟨gs, i * 3, none⟩ = some (.int .i64 (f' i).u) ∧ w'.cell? ⟨gs, i * 3 + 1, none⟩ = some (.int .i64 (f' i).v) ∧ w'.cell? ⟨gs, i * 3 + 2, none⟩ = some (.int .i64 (f' i).c)) from
            fun w' hb => ⟨hb, cu_below hb k0 hgl, cu_below hb k1 hgl, cu_below hb ka hgsl, cu_below hb kb hgsl, cu_below hb kx hgsl, cu_below hb ia hgsl, cu_below hb ib hgsl, cu_below hb ix hgsl⟩)
          go_region_held3 (fun w' => Below wq.heap.size wq w' ∧ w'.cell? ⟨g, 0, none⟩ = some (.func (.func 117) #[] #[]) ∧ w'.cell? ⟨g, 1, none⟩ = some (.slice (some ⟨gs, 0, none⟩) n c0) ∧ w'.cell? ⟨gs, k * 3, none⟩ = some (.int .i64 (f' k).u) ∧ w'.cell? ⟨gs, k * 3 + 1, none⟩ = some (.int .i64 (f' k).v) ∧ w'.cell? ⟨gs, k * 3 + 2, none⟩ = some (.int .i64 (f' k).c) ∧ w'.cell? ⟨gs, i * 3, none⟩ = some (.int .i64 (f' i).u) ∧ w'.cell? ⟨gs, i * 3 + 1, none⟩ = some (.int .i64 (f' i).v) ∧ w'.cell? ⟨gs, i * 3 + 2, none⟩ = some (.int .i64 (f' i).c))
            (first | exact key.out _ (below_drew _) | exact key.out _ (by assumption))
            (first | (go_at_call 117; refine (hC0.out _).mono ?_; rintro e w5 ⟨rfl, hb5⟩; have hb6 := below_step (‹Below wq.heap.size wq _ ∧ _› : _ ∧ _).1 hb5))
          have hI5 := hide (hI4.out.stays (‹Below wq.heap.size wq w5 ∧ _› : _ ∧ _).1)
          clear key hC0 hb5 hb6 ka kb kx ia ib ix k0 k1 hI4 hgl hgsl
          cases b2
          · have hoa := hI5.out.oa
            have hob := hI5.out.ob
            have hox := hI5.out.ox
            have hra := hI5.out.ra
            have hrb := hI5.out.rb
            have hrx := hI5.out.rx
            have hfa := hI5.out.fa
            have hfb := hI5.out.fb
            have hfx := hI5.out.fx
            have hz := hI5.out.lt
            have hD := hide hI5.out.done
            go_wp2
            refine bodyPost_ret (v := .agg #[.int .i64 (f 0).u, .int .i64 (f 0).v, .int .i64 (f 0).c]) (by simp [results, Try.results187, go_sem, hra, hrb, hrx, hz]) rfl ⟨rfl, ?_, hD.out.2⟩
            rw [← hS.out, siftDown_stop hlt (by rw [← hkid.out]; exact hb2.out.symm)]
            exact hD.out.1
          · obtain ⟨ka, kb, kx⟩ := hI5.out.at'.cells k hkn
            obtain ⟨ia, ib, ix⟩ := hI5.out.at'.cells i (by omega)
            have k0 := hI5.out.at'.c0
            have k1 := hI5.out.at'.c1
            have hgl := hI5.out.at'.lt
            have hgsl := hI5.out.at'.own.at_base.2
            have ffk := hI5.out.at'.frees (k * 3)
            have ffk1 := hI5.out.at'.frees (k * 3 + 1)
            have ffk2 := hI5.out.at'.frees (k * 3 + 2)
            have ffi := hI5.out.at'.frees (i * 3)
            have ffi1 := hI5.out.at'.frees (i * 3 + 1)
            have ffi2 := hI5.out.at'.frees (i * 3 + 2)
            go_wp2
            go_region
            go_wp2
            have hsw := hide (hI5.out.swap (show i < n by omega) hkn)
            have hgo := siftDown_go (lt := spLt) (n := n) (f := f') (i := i) hlt (by rw [← hkid.out]; exact hb2.out.symm)
            rw [← hkid.out] at hgo
            replace hgo := hide hgo
            go_roundw
            case rel =>
              refine ⟨k, swf f' i k, by omega, by go_num, hide ?_, hide ?_⟩
              · first | exact hsw.out.drew | exact hsw.out.drewN _
              · rw [← hS.out]; exact hgo.out.symm
            case measure => simp [intOf]; omega
      · have hkid := hide (show m = kid spLt n f' i by unfold kid; rw [← hm'.out, if_neg (by omega)])
        obtain ⟨k, rfl⟩ : ∃ k, k = m := ⟨_, rfl⟩
        have hkn := hmn
        have hik : i < k := by have := hm'.out; omega
        have im1 := hide (show IntKind.i64.wrap ((k : Int) + 1) = (k : Int) + 1 from IntWalk.i64_in _ (by omega))
        have im4 := hide (show decide ((k : Int) + 1 < (n : Int)) = false by simp; omega)
        clear hm
        go_wp2
        replace hq := hq.out
        simp only [hq]
        clear hq
        replace im1 := im1.out
        replace im4 := im4.out
        go_quiet (fail)
        clear im1 im4 ma mb mx k0 k1 hgl hgsl
        have hI4 := hide (hI.out.drewN nq)
        generalize wr.drewN nq = wq at hI4 ⊢
        go_wp2
        obtain ⟨ka, kb, kx⟩ := hI4.out.at'.cells k hkn
        obtain ⟨ia, ib, ix⟩ := hI4.out.at'.cells i (by omega)
        have k0 := hI4.out.at'.c0
        have k1 := hI4.out.at'.c1
        have hgl := hI4.out.at'.lt
        have hgsl := hI4.out.at'.own.at_base.2
        have ik : (0 : Int) ≤ (k : Int) ∧ (k : Int) < (n : Int) := by omega
        have ii : (0 : Int) ≤ (i : Int) ∧ (i : Int) < (n : Int) := by omega
        have hC0 := hide (lessS_any (f' k) (f' i))
        obtain ⟨b2, hb2⟩ : ∃ b, b = spLt (f' k) (f' i) := ⟨_, rfl⟩
        rw [← hb2] at hC0
        replace hb2 := hide hb2
        have key := hide (show ∀ w', Below wq.heap.size wq w' → (Below wq.heap.size wq w' ∧ w'.cell? ⟨g, 0, none⟩ = some (.func (.func 117) #[] #[]) ∧ w'.cell? ⟨g, 1, none⟩ = some (.slice (some ⟨gs, 0, none⟩) n c0) ∧ w'.cell? ⟨gs, k * 3, none⟩ = some (.int .i64 (f' k).u) ∧ w'.cell? ⟨gs, k * 3 + 1, none⟩ = some (.int .i64 (f' k).v) ∧ w'.cell? ⟨gs, k * 3 + 2, none⟩ = some (.int .i64 (f' k).c) ∧ w'.cell? ⟨gs, i * 3, none⟩ = some (.int .i64 (f' i).u) ∧ w'.cell? ⟨gs, i * 3 + 1, none⟩ = some (.int .i64 (f' i).v) ∧ w'.cell? ⟨gs, i * 3 + 2, none⟩ = some (.int .i64 (f' i).c)) from
          fun w' hb => ⟨hb, cu_below hb k0 hgl, cu_below hb k1 hgl, cu_below hb ka hgsl, cu_below hb kb hgsl, cu_below hb kx hgsl, cu_below hb ia hgsl, cu_below hb ib hgsl, cu_below hb ix hgsl⟩)
        go_region_held3 (fun w' => Below wq.heap.size wq w' ∧ w'.cell? ⟨g, 0, none⟩ = some (.func (.func 117) #[] #[]) ∧ w'.cell? ⟨g, 1, none⟩ = some (.slice (some ⟨gs, 0, none⟩) n c0) ∧ w'.cell? ⟨gs, k * 3, none⟩ = some (.int .i64 (f' k).u) ∧ w'.cell? ⟨gs, k * 3 + 1, none⟩ = some (.int .i64 (f' k).v) ∧ w'.cell? ⟨gs, k * 3 + 2, none⟩ = some (.int .i64 (f' k).c) ∧ w'.cell? ⟨gs, i * 3, none⟩ = some (.int .i64 (f' i).u) ∧ w'.cell? ⟨gs, i * 3 + 1, none⟩ = some (.int .i64 (f' i).v) ∧ w'.cell? ⟨gs, i * 3 + 2, none⟩ = some (.int .i64 (f' i).c))
          (first | exact key.out _ (below_drew _) | exact key.out _ (by assumption))
          (first | (go_at_call 117; refine (hC0.out _).mono ?_; rintro e w5 ⟨rfl, hb5⟩; have hb6 := below_step (‹Below wq.heap.size wq _ ∧ _› : _ ∧ _).1 hb5))
        have hI5 := hide (hI4.out.stays (‹Below wq.heap.size wq w5 ∧ _› : _ ∧ _).1)
        clear key hC0 hb5 hb6 ka kb kx ia ib ix k0 k1 hI4 hgl hgsl
        cases b2
        · have hoa := hI5.out.oa
          have hob := hI5.out.ob
          have hox := hI5.out.ox
          have hra := hI5.out.ra
          have hrb := hI5.out.rb
          have hrx := hI5.out.rx
          have hfa := hI5.out.fa
          have hfb := hI5.out.fb
          have hfx := hI5.out.fx
          have hz := hI5.out.lt
          have hD := hide hI5.out.done
          go_wp2
          refine bodyPost_ret (v := .agg #[.int .i64 (f 0).u, .int .i64 (f 0).v, .int .i64 (f 0).c]) (by simp [results, Try.results187, go_sem, hra, hrb, hrx, hz]) rfl ⟨rfl, ?_, hD.out.2⟩
          rw [← hS.out, siftDown_stop hlt (by rw [← hkid.out]; exact hb2.out.symm)]
          exact hD.out.1
        · obtain ⟨ka, kb, kx⟩ := hI5.out.at'.cells k hkn
          obtain ⟨ia, ib, ix⟩ := hI5.out.at'.cells i (by omega)
          have k0 := hI5.out.at'.c0
          have k1 := hI5.out.at'.c1
          have hgl := hI5.out.at'.lt
          have hgsl := hI5.out.at'.own.at_base.2
          have ffk := hI5.out.at'.frees (k * 3)
          have ffk1 := hI5.out.at'.frees (k * 3 + 1)
          have ffk2 := hI5.out.at'.frees (k * 3 + 2)
          have ffi := hI5.out.at'.frees (i * 3)
          have ffi1 := hI5.out.at'.frees (i * 3 + 1)
          have ffi2 := hI5.out.at'.frees (i * 3 + 2)
          go_wp2
          go_region
          go_wp2
          have hsw := hide (hI5.out.swap (show i < n by omega) hkn)
          have hgo := siftDown_go (lt := spLt) (n := n) (f := f') (i := i) hlt (by rw [← hkid.out]; exact hb2.out.symm)
          rw [← hkid.out] at hgo
          replace hgo := hide hgo
          go_roundw
          case rel =>
            refine ⟨k, swf f' i k, by omega, by go_num, hide ?_, hide ?_⟩
            · first | exact hsw.out.drew | exact hsw.out.drewN _
            · rw [← hS.out]; exact hgo.out.symm
          case measure => simp [intOf]; omega
    · have hoa := hI.out.oa
      have hob := hI.out.ob
      have hox := hI.out.ox
      have hra := hI.out.ra
      have hrb := hI.out.rb
      have hrx := hI.out.rx
      have hfa := hI.out.fa
      have hfb := hI.out.fb
      have hfx := hI.out.fx
      have hz := hI.out.lt
      have hD := hide hI.out.done
      go_wp2
      refine bodyPost_ret (v := .agg #[.int .i64 (f 0).u, .int .i64 (f 0).v, .int .i64 (f 0).c]) (by simp [results, Try.results187, go_sem, hra, hrb, hrx, hz]) rfl ⟨rfl, ?_, hD.out.2⟩
      rw [← hS.out, siftDown_end hlt]
      exact hD.out.1
end Go.Proofs.Ytcehdpeeaogpiaa

/-! One way, mended as edges change: costs, what a place looks like, what waits; that what is settled is right, with how much work. No program here. -/
namespace Go.Proofs.Ytcehdpeeaogpiaa
set_option linter.unusedSimpArgs false
set_option linter.unusedVariables false
/-- the least of a list -/
theorem fmin (g : NE → Int) : ∀ (L : List NE) (b : Int), L.foldl (fun b e => min b (g e)) b ≤ b ∧ (∀ e ∈ L, L.foldl (fun b e => min b (g e)) b ≤ g e) ∧ (L.foldl (fun b e => min b (g e)) b = b ∨ ∃ e ∈ L, L.foldl (fun b e => min b (g e)) b = g e)
  | [], b => ⟨Int.le_refl _, by simp, .inl rfl⟩
  | x :: r, b => by
    simp only [List.foldl_cons]
    obtain ⟨h1, h2, h3⟩ := fmin g r (min b (g x))
    refine ⟨by omega, fun e he => ?_, ?_⟩
    · rcases List.mem_cons.1 he with rfl | he
      · omega
      · exact h2 e he
    · rcases h3 with h3 | ⟨e, he, h3⟩
      · rcases Int.le_total b (g x) with hh | hh
        · left; rw [h3]; omega
        · right; exact ⟨x, List.mem_cons_self .., by rw [h3]; omega⟩
      · right; exact ⟨e, List.mem_cons_of_mem _ he, h3⟩
/-- what a place looks like from the places ahead of it -/
def lookOf (E : List NE) (c : Nat → Int) (v : Nat) : Int := (E.filter fun e => decide (e.v = v)).foldl (fun b e => min b (c e.u + e.c)) FAR
section
variable {n s u v : Nat} {E : List NE} {c l : Nat → Int} {x K : Int} {D D' : Nat → Prop} {X X' : List Ed}
theorem look_far : lookOf E c v ≤ FAR := (fmin _ _ _).1
theorem look_le {e : NE} (he : e ∈ E) : lookOf E c e.v ≤ c e.u + e.c := (fmin (fun e => c e.u + e.c) (E.filter fun x => decide (x.v = e.v)) FAR).2.1 e (List.mem_filter.2 ⟨he, by simp⟩)
theorem look_att : lookOf E c v = FAR ∨ ∃ e ∈ E, e.v = v ∧ lookOf E c v = c e.u + e.c := by
  rcases (fmin (fun e => c e.u + e.c) (E.filter fun e => decide (e.v = v)) FAR).2.2 with h | ⟨e, he, h⟩
  · exact .inl h
  · rw [List.mem_filter] at he
    exact .inr ⟨e, he.1, by simpa using he.2, h⟩
theorem look_ge0 (hc : ∀ e ∈ E, 0 ≤ c e.u ∧ 1 ≤ e.c) : 0 ≤ lookOf E c v := by
  rcases look_att (E := E) (c := c) (v := v) with h | ⟨e, he, _, h⟩
  · rw [h]; decide
  · have := hc e he; omega
/-- one place's cost changed: what is less than all that comes from it stays -/
theorem look_same (hK : lookOf E c v ≤ K) (h : ∀ e ∈ E, e.v = v → e.u = u → K < c u + e.c ∧ K < x + e.c) : lookOf E (upz c u x) v = lookOf E c v := by
  have h1 : lookOf E (upz c u x) v ≤ lookOf E c v := by
    rcases look_att (E := E) (c := c) (v := v) with g | ⟨e, he, hv, g⟩
    · rw [g]; exact look_far
    · have hu : e.u ≠ u := fun hu => by have := (h e he hv hu).1; rw [hu] at g; omega
      have := look_le (c := upz c u x) he
      rw [upz_other _ _ hu, hv] at this
      omega
  have h2 : lookOf E c v ≤ lookOf E (upz c u x) v := by
    rcases look_att (E := E) (c := upz c u x) (v := v) with g | ⟨e, he, hv, g⟩
    · rw [g]; exact look_far
    · by_cases hu : e.u = u
      · have := (h e he hv hu).2
        rw [hu, upz_same] at g
        omega
      · rw [upz_other _ _ hu] at g
        have := look_le (c := c) he
        rw [hv] at this
        omega
  omega
theorem look_else (h : ∀ e ∈ E, e.v = v → e.u ≠ u) : lookOf E (upz c u x) v = lookOf E c v :=
  look_same (K := FAR) look_far (fun e he hv hu => absurd hu (h e he hv))
/-- what holds of costs and looks, D the places that are still to be mended -/
structure LOk (n s : Nat) (E : List NE) (c l : Nat → Int) (D : Nat → Prop) : Prop where
  cb : ∀ v, v < n → 0 ≤ c v ∧ c v ≤ FAR
  lb : ∀ v, v < n → 0 ≤ l v ∧ l v ≤ FAR
  ls : l s = 0
  lk : ∀ v, v < n → v ≠ s → ¬ D v → l v = lookOf E c v
/-- the edges are right -/
def LEd (n : Nat) (E : List NE) : Prop := ∀ e ∈ E, e.u < n ∧ e.v < n ∧ 1 ≤ e.c ∧ e.c ≤ 10000
/-- a place's keys -/
def spk (c l : Nat → Int) (v : Nat) : Ed := ⟨min (c v) (l v), min (c v) (l v), (v : Int)⟩
/-- what waits -/
structure LHas (n s : Nat) (c l : Nat → Int) (D : Nat → Prop) (X : List Ed) : Prop where
  ent : ∀ p ∈ X, ∃ v : Nat, v < n ∧ p.c = (v : Int)
  has : ∀ v, v < n → (v = s ∨ ¬ D v) → c v ≠ l v → spk c l v ∈ X
theorem LOk.mono (h : LOk n s E c l D) (hD : ∀ x, D x → D' x ∨ x = s) : LOk n s E c l D' :=
  ⟨h.cb, h.lb, h.ls, fun v hv hs hd => h.lk v hv hs (fun e => (hD v e).elim hd hs)⟩
theorem LHas.mono (h : LHas n s c l D X) (hD : ∀ x, D x → D' x ∨ x = s) : LHas n s c l D' X :=
  ⟨h.ent, fun v hv hd hc => h.has v hv (hd.elim .inl (fun e => Classical.byContradiction fun g => by
    rcases not_or.1 g with ⟨g1, g2⟩
    exact (hD v (Classical.byContradiction g2)).elim e g1)) hc⟩
theorem LHas.perm (h : LHas n s c l D X) (hp : X'.Perm X) : LHas n s c l D X' := ⟨fun p hm => h.ent p (hp.mem_iff.1 hm), fun v h1 h2 h3 => hp.mem_iff.2 (h.has v h1 h2 h3)⟩
theorem lok_mend (h : LOk n s E c l D) (hE : LEd n E) (hv : v < n) (hs : v ≠ s) (hD : ∀ x, D x → D' x ∨ x = v) : LOk n s E c (upz l v (lookOf E c v)) D' := by
  refine ⟨h.cb, fun x hx => ?_, by rw [upz_other _ _ (fun e => hs e.symm)]; exact h.ls, fun x hx hxs hd => ?_⟩
  · by_cases hxv : x = v
    · subst hxv; rw [upz_same]; exact ⟨look_ge0 (fun e he => ⟨(h.cb e.u (hE e he).1).1, (hE e he).2.2.1⟩), look_far⟩
    · rw [upz_other _ _ hxv]; exact h.lb x hx
  · by_cases hxv : x = v
    · subst hxv; rw [upz_same]
    · rw [upz_other _ _ hxv]; exact h.lk x hx hxs (fun e => (hD x e).elim hd hxv)
theorem lhas_mend {y : Int} (h : LHas n s c l D X) (hv : v < n) (hs : v ≠ s) (hD : ∀ x, D x → D' x ∨ x = v) (hX : ∀ p ∈ X, p ∈ X') (hX2 : ∀ p ∈ X', p ∈ X ∨ p.c = (v : Int)) (hp : c v ≠ y → spk c (upz l v y) v ∈ X') : LHas n s c (upz l v y) D' X' := by
  refine ⟨fun p hm => ?_, fun x hx hd hc => ?_⟩
  · rcases hX2 p hm with h1 | h1
    · exact h.ent p h1
    · exact ⟨v, hv, h1⟩
  · by_cases hxv : x = v
    · subst hxv; rw [upz_same] at hc; exact hp hc
    · rw [upz_other _ _ hxv] at hc
      have h1 := h.has x hx (hd.elim .inl (fun e => .inr (fun g => (hD x g).elim e hxv))) hc
      have e : spk c (upz l v y) x = spk c l x := by unfold spk; rw [upz_other _ _ hxv]
      rw [e]
      exact hX _ h1
/-- where an edge leads from u -/
def Tg (E : List NE) (u x : Nat) : Prop := ∃ e ∈ E, e.u = u ∧ e.v = x
theorem lok_set (h : LOk n s E c l (fun _ => False)) (hx : 0 ≤ x ∧ x ≤ FAR) (hD : ∀ y, Tg E u y → D y) : LOk n s E (upz c u x) l D := by
  refine ⟨fun v hv => ?_, h.lb, h.ls, fun v hv hs hd => ?_⟩
  · by_cases hvu : v = u
    · subst hvu; rw [upz_same]; exact hx
    · rw [upz_other _ _ hvu]; exact h.cb v hv
  · rw [look_else (fun e he hev heu => hd (hD v ⟨e, he, heu, hev⟩))]
    exact h.lk v hv hs (fun e => e)
theorem lhas_set (h : LHas n s c l (fun _ => False) X) (hu : x = l u ∨ (u ≠ s ∧ D u)) (hX : ∀ p ∈ X, p.c ≠ (u : Int) → p ∈ X') (hX2 : ∀ p ∈ X', p ∈ X) : LHas n s (upz c u x) l D X' := by
  refine ⟨fun p hp => h.ent p (hX2 p hp), fun v hv hd hc => ?_⟩
  by_cases hvu : v = u
  · subst hvu
    rw [upz_same] at hc
    rcases hu with hu | hu
    · exact absurd hu hc
    · exact absurd hu.2 (hd.elim (fun e => absurd e hu.1) id)
  · have e : spk (upz c u x) l v = spk c l v := by unfold spk; rw [upz_other _ _ hvu]
    rw [upz_other _ _ hvu] at hc
    rw [e]
    refine hX _ (h.has v hv (.inr (fun e => e)) hc) ?_
    show (v : Int) ≠ (u : Int)
    omega
/-- how many are marked -/
def cB (n : Nat) (S : Nat → Bool) : Nat := (List.range n).countP S
theorem cb_le (n : Nat) (S : Nat → Bool) : cB n S ≤ n := by
  have := List.countP_le_length (p := S) (l := List.range n)
  simpa [cB] using this
theorem cb_none (n : Nat) : cB n (fun _ => false) = 0 := by simp [cB]
theorem cb_mark {S : Nat → Bool} {v : Nat} (hv : S v = false) : ∀ n, v < n → cB n (upz S v true) = cB n S + 1
  | 0, h => by omega
  | n + 1, h => by
    unfold cB
    rw [List.range_succ, List.countP_append, List.countP_append]
    by_cases hvn : v = n
    · subst hvn
      have h1 : (List.range v).countP (upz S v true) = (List.range v).countP S := List.countP_congr fun x hx => by
        have := List.mem_range.1 hx
        rw [upz_other _ _ (by omega)]
      rw [h1]
      simp [List.countP_cons, upz_same, hv]
    · have := cb_mark hv n (by omega)
      unfold cB at this
      rw [this]
      simp only [List.countP_cons, List.countP_nil, upz_other _ _ (fun e => hvn e.symm)]
      omega
/-- how far the work has come: K the last key, S those that were made dearer no more, U those whose cost was taken back -/
structure LW (n : Nat) (c l : Nat → Int) (K : Int) (S U : Nat → Bool) (wk : Nat) : Prop where
  inc : ∀ v, v < n → c v ≠ l v → K ≤ c v ∧ K ≤ l v
  s1 : ∀ v, S v = true → v < n ∧ c v = l v ∧ c v ≤ K
  u1 : ∀ v, U v = true → v < n ∧ (S v = true ∨ c v = FAR)
  wk : wk = cB n S + cB n U
theorem LW.bound {wk : Nat} {S U : Nat → Bool} (h : LW n c l K S U wk) : wk ≤ 2 * n := by
  have := h.wk
  have := cb_le n S
  have := cb_le n U
  omega
theorem lw_start (h : LOk n s E c l D) : LW n c l 0 (fun _ => false) (fun _ => false) 0 :=
  ⟨fun v hv _ => ⟨(h.cb v hv).1, (h.lb v hv).1⟩, fun v hv => (by cases hv), fun v hv => (by cases hv), by rw [cb_none]⟩
theorem lw_over {l' : Nat → Int} {S U : Nat → Bool} {wk : Nat} (hL : LOk n s E c l (fun _ => False)) (hL' : LOk n s E (upz c u (l u)) l' (fun _ => False)) (hE : LEd n E) (hW : LW n c l K S U wk) (hu : u < n) (hgt : l u < c u) (hmin : ∀ v, v < n → c v ≠ l v → l u ≤ c v ∧ l u ≤ l v) :
    LW n (upz c u (l u)) l' (l u) (upz S u true) U (wk + 1) := by
  have hKu := (hW.inc u hu (by omega)).2
  have hSu : S u = false := by
    cases h : S u with
    | false => rfl
    | true => have := (hW.s1 u h).2.1; omega
  have same : ∀ v, v < n → l v ≤ l u → l' v = l v := fun v hv hle => by
    by_cases hs : v = s
    · subst hs; rw [hL'.ls, hL.ls]
    · have h1 := hL.lk v hv hs (fun e => e)
      rw [hL'.lk v hv hs (fun e => e), h1]
      exact look_same (K := l u) (by rw [← h1]; exact hle) (fun e he _ _ => by have := (hE e he).2.2.1; omega)
  have above : ∀ v, v < n → l u < l v → l u ≤ l' v := fun v hv hlt => by
    by_cases hs : v = s
    · subst hs; have := hL.ls; have := (hL.lb u hu).1; omega
    · have h1 := hL.lk v hv hs (fun e => e)
      rw [hL'.lk v hv hs (fun e => e)]
      rcases look_att (E := E) (c := upz c u (l u)) (v := v) with g | ⟨e, he, hev, g⟩
      · rw [g]; exact (hL.lb u hu).2
      · rw [g]
        have h2 := (hE e he).2.2.1
        by_cases heu : e.u = u
        · rw [heu, upz_same]; omega
        · rw [upz_other _ _ heu]
          have := look_le (c := c) he
          rw [hev, ← h1] at this
          omega
  refine ⟨fun v hv hne => ?_, fun v hS => ?_, fun v hU => ?_, ?_⟩
  · by_cases hvu : v = u
    · subst hvu
      exact absurd (by rw [upz_same, same v hu (Int.le_refl _)]) hne
    · rw [upz_other _ _ hvu] at hne ⊢
      by_cases hcl : c v = l v
      · by_cases hle : l v ≤ l u
        · exact absurd (by rw [same v hv hle]; exact hcl) hne
        · exact ⟨by omega, above v hv (by omega)⟩
      · have h1 := hmin v hv hcl
        refine ⟨h1.1, ?_⟩
        rcases Int.lt_or_eq_of_le h1.2 with h2 | h2
        · exact above v hv h2
        · rw [same v hv (by omega)]; exact h1.2
  · by_cases hvu : v = u
    · subst hvu
      rw [upz_same, same v hu (Int.le_refl _)]
      exact ⟨hu, rfl, Int.le_refl _⟩
    · rw [upz_other _ _ hvu] at hS
      obtain ⟨h1, h2, h3⟩ := hW.s1 v hS
      rw [upz_other _ _ hvu, same v h1 (by omega)]
      exact ⟨h1, h2, by omega⟩
  · obtain ⟨h1, h2⟩ := hW.u1 v hU
    refine ⟨h1, ?_⟩
    by_cases hvu : v = u
    · subst hvu; exact .inl (upz_same ..)
    · rw [upz_other _ _ hvu, upz_other _ _ hvu]; exact h2
  · rw [cb_mark hSu n hu]; have := hW.wk; omega
theorem lw_under {l' : Nat → Int} {S U : Nat → Bool} {wk : Nat} (hL : LOk n s E c l (fun _ => False)) (hL' : LOk n s E (upz c u FAR) l' (fun _ => False)) (hE : LEd n E) (hW : LW n c l K S U wk) (hu : u < n) (hlt : c u < l u) (hmin : ∀ v, v < n → c v ≠ l v → c u ≤ c v ∧ c u ≤ l v) :
    LW n (upz c u FAR) l' (c u) S (upz U u true) (wk + 1) := by
  have hKu := (hW.inc u hu (by omega)).1
  have hbu := hL.cb u hu
  have hlu := hL.lb u hu
  have hSu : S u = false := by
    cases h : S u with
    | false => rfl
    | true => have := (hW.s1 u h).2.1; omega
  have hUu : U u = false := by
    cases h : U u with
    | false => rfl
    | true =>
      rcases (hW.u1 u h).2 with h1 | h1
      · rw [hSu] at h1; cases h1
      · omega
  have same : ∀ v, v < n → l v ≤ c u → l' v = l v := fun v hv hle => by
    by_cases hs : v = s
    · subst hs; rw [hL'.ls, hL.ls]
    · have h1 := hL.lk v hv hs (fun e => e)
      rw [hL'.lk v hv hs (fun e => e), h1]
      exact look_same (K := c u) (by rw [← h1]; exact hle) (fun e he _ _ => by have := (hE e he).2.2.1; omega)
  have above : ∀ v, v < n → c u < l v → c u ≤ l' v := fun v hv hlt => by
    by_cases hs : v = s
    · subst hs; have := hL.ls; omega
    · have h1 := hL.lk v hv hs (fun e => e)
      rw [hL'.lk v hv hs (fun e => e)]
      rcases look_att (E := E) (c := upz c u FAR) (v := v) with g | ⟨e, he, hev, g⟩
      · rw [g]; exact hbu.2
      · rw [g]
        have h2 := (hE e he).2.2.1
        by_cases heu : e.u = u
        · rw [heu, upz_same]; omega
        · rw [upz_other _ _ heu]
          have := look_le (c := c) he
          rw [hev, ← h1] at this
          omega
  refine ⟨fun v hv hne => ?_, fun v hS => ?_, fun v hU => ?_, ?_⟩
  · by_cases hvu : v = u
    · subst hvu
      rw [upz_same]
      exact ⟨hbu.2, above v hu hlt⟩
    · rw [upz_other _ _ hvu] at hne ⊢
      by_cases hcl : c v = l v
      · by_cases hle : l v ≤ c u
        · exact absurd (by rw [same v hv hle]; exact hcl) hne
        · exact ⟨by omega, above v hv (by omega)⟩
      · have h1 := hmin v hv hcl
        refine ⟨h1.1, ?_⟩
        rcases Int.lt_or_eq_of_le h1.2 with h2 | h2
        · exact above v hv h2
        · rw [same v hv (by omega)]; exact h1.2
  · have hvu : v ≠ u := fun e => by rw [e, hSu] at hS; cases hS
    obtain ⟨h1, h2, h3⟩ := hW.s1 v hS
    rw [upz_other _ _ hvu, same v h1 (by omega)]
    exact ⟨h1, h2, by omega⟩
  · by_cases hvu : v = u
    · subst hvu; exact ⟨hu, .inr (upz_same ..)⟩
    · rw [upz_other _ _ hvu] at hU ⊢
      exact hW.u1 v hU
  · rw [cb_mark hUu n hu]; have := hW.wk; omega
/-- nothing is left that the last place hangs on -/
def LExit (n : Nat) (c l : Nat → Int) (t : Nat) : Prop := c t = l t ∧ ∀ v, v < n → c v ≠ l v → spLt (spk c l v) (spk c l t) = false
theorem splt_low {a b : Nat} (h : spLt (spk c l a) (spk c l b) = false) : min (c b) (l b) ≤ min (c a) (l a) := by
  have h1 : ¬ ((spk c l a).u < (spk c l b).u) := fun hc => by
    have : spLt (spk c l a) (spk c l b) = true := decide_eq_true (.inl hc)
    rw [h] at this; cases this
  have h2 : (spk c l a).u = min (c a) (l a) := rfl
  have h3 : (spk c l b).u = min (c b) (l b) := rfl
  omega
theorem LExit.low {t : Nat} (h : LExit n c l t) (hv : v < n) (hc : c v ≠ l v) : c t ≤ c v ∧ c t ≤ l v := by
  have h1 := splt_low (h.2 v hv hc)
  have := h.1
  omega
theorem life_at {t : Nat} (hL : LOk n s E c l (fun _ => False)) (hE : LEd n E) (hX : LExit n c l t) : ∀ (N v : Nat), v < n → c v = l v → c v ≤ c t → c v < FAR → (c v).toNat < N → At E (stF s) v (c v)
  | 0, v, _, _, _, _, h => by omega
  | N + 1, v, hv, hc, ht, hF, hN => by
    by_cases hs : v = s
    · subst hs
      have e : c v = stF v v := by rw [hc, hL.ls]; simp [stF]
      rw [e]
      exact At.base v (by rw [← e]; exact hF)
    · have h1 := hL.lk v hv hs (fun e => e)
      rcases look_att (E := E) (c := c) (v := v) with g | ⟨e, he, hev, g⟩
      · omega
      · obtain ⟨e1, e2, e3, e4⟩ := hE e he
        have hb := (hL.cb e.u e1).1
        have hcu : c e.u = l e.u := Classical.byContradiction fun hne => by have := (hX.low e1 hne).1; omega
        have ih := life_at hL hE hX N e.u e1 hcu (by omega) (by omega) (by omega)
        have h2 := At.step e _ he ih (by omega) (by omega)
        rw [hev, show c e.u + e.c = c v by omega] at h2
        exact h2
theorem life_le {t : Nat} (hL : LOk n s E c l (fun _ => False)) (hE : LEd n E) (hs : s < n) (hX : LExit n c l t) {x : Int} (h : At E (stF s) v x) : v < n → x < c t → c v = l v ∧ c v ≤ x := by
  induction h with
  | base v hv =>
    intro hn hx
    have hvs : v = s := Classical.byContradiction fun hne => by simp [stF, hne] at hv
    subst hvs
    have h0 : stF v v = 0 := by simp [stF]
    rw [h0] at hx ⊢
    have h1 := hL.ls
    have hcl : c v = l v := Classical.byContradiction fun hne => by have := (hX.low hn hne).2; omega
    exact ⟨hcl, by omega⟩
  | step e x he h hx hy ih =>
    intro hn hxt
    obtain ⟨e1, e2, e3, e4⟩ := hE e he
    obtain ⟨i1, i2⟩ := ih e1 (by omega)
    have hl : l e.v ≤ x + e.c := by
      by_cases hev : e.v = s
      · rw [hev, hL.ls]; have := (hL.cb e.u e1).1; omega
      · rw [hL.lk e.v e2 hev (fun e => e)]
        have := look_le (c := c) he
        omega
    have hcl : c e.v = l e.v := Classical.byContradiction fun hne => by have := (hX.low e2 hne).2; omega
    exact ⟨hcl, by omega⟩
/-- what is settled is right -/
theorem life_dist {t : Nat} (hL : LOk n s E c l (fun _ => False)) (hE : LEd n E) (hs : s < n) (ht : t < n) (hX : LExit n c l t) : c t = spread E (stF s) (n - 1) t := by
  have hEE : ∀ e ∈ E, e.u < n ∧ e.v < n ∧ 1 ≤ e.c := fun e he => ⟨(hE e he).1, (hE e he).2.1, (hE e he).2.2.1⟩
  obtain ⟨hfe, hge⟩ := spread_feas hEE hs
  have hsF : ∀ v, stF s v ≤ FAR := stF_far s
  have hle := spread_le E (stF s) (n - 1)
  have hatt := spread_att E (stF s) hsF (n - 1) t
  have h1 : c t ≤ spread E (stF s) (n - 1) t := by
    rcases Int.lt_or_le (spread E (stF s) (n - 1) t) (c t) with h | h
    · have := (hL.cb t ht).2
      exact (life_le hL hE hs hX (hatt.2 (by omega)) ht h).2
    · exact h
  have h2 : spread E (stF s) (n - 1) t ≤ c t := by
    by_cases hF : c t < FAR
    · exact at_ge hfe hle (life_at hL hE hX _ t ht hX.1 (Int.le_refl _) hF (Nat.lt_succ_self _))
    · have := hsF t
      have := hle t
      omega
  omega
/-- the place ahead on the way: there is one, and it is settled, too -/
theorem life_back {t : Nat} (hL : LOk n s E c l (fun _ => False)) (hX : LExit n c l t) (hv : v < n) (hs : v ≠ s) (hc : c v = l v) (hF : c v < FAR) : ∃ e ∈ E, e.v = v ∧ c e.u + e.c = c v := by
  have h1 := hL.lk v hv hs (fun e => e)
  rcases look_att (E := E) (c := c) (v := v) with g | ⟨e, he, hev, g⟩
  · omega
  · exact ⟨e, he, hev, by omega⟩
theorem life_ahead {t : Nat} {e : NE} (hL : LOk n s E c l (fun _ => False)) (hE : LEd n E) (hX : LExit n c l t) (he : e ∈ E) (hle : c e.v ≤ c t) (hq : c e.u + e.c = c e.v) : c e.u = l e.u ∧ c e.u < c e.v := by
  obtain ⟨e1, e2, e3, e4⟩ := hE e he
  exact ⟨Classical.byContradiction fun hne => by have := (hX.low e1 hne).1; omega, by omega⟩
end
/-- the costs between the places of a way, from its first place on -/
def LCh (es : List Ed) (c : Nat → Int) : List Nat → Prop
  | a :: b :: r => minE (a : Int) (b : Int) es = c b - c a ∧ c a < c b ∧ minE (a : Int) (b : Int) es ≠ 1099511627776 ∧ LCh es c (b :: r)
  | _ => True
theorem lch_cost {es : List Ed} {c : Nat → Int} : ∀ (p : List Nat) (a : Nat) (x : Int), LCh es c (a :: p) → wcRest es ((a :: p).map fun v => ((v : Nat) : Int)) x = (x + c ((a :: p).getLast (by simp)) - c a, 0)
  | [], a, x, _ => by simp [wcRest]
  | b :: r, a, x, h => by
    obtain ⟨h1, h2, h3, h4⟩ := h
    have ih := lch_cost r b (x + (c b - c a)) h4
    simp only [List.map_cons] at ih ⊢
    rw [wcRest, if_neg h3, h1, ih]
    simp only [List.getLast_cons_cons, Prod.mk.injEq, and_true]
    omega
theorem lch_up {es : List Ed} {c : Nat → Int} : ∀ (p : List Nat) (a : Nat), LCh es c (a :: p) → (a :: p).Nodup ∧ ∀ v ∈ p, c a < c v
  | [], a, _ => by simp
  | b :: r, a, h => by
    obtain ⟨h1, h2, h3, h4⟩ := h
    obtain ⟨i1, i2⟩ := lch_up r b h4
    have hall : ∀ v ∈ b :: r, c a < c v := fun v hv => by
      rcases List.mem_cons.1 hv with rfl | hv
      · exact h2
      · have := i2 v hv; omega
    exact ⟨List.nodup_cons.2 ⟨fun hm => by have := hall a hm; omega, i1⟩, hall⟩
/-- the least edge between two places on the way -/
theorem life_min {n s : Nat} {es : List Ed} {c l : Nat → Int} (hL : LOk n s (nes es) c l (fun _ => False)) (hR : Right n es) (hE : LEd n (nes es)) {e : NE} (he : e ∈ nes es) (hs : e.v ≠ s) (hc : c e.v = l e.v) (hq : c e.u + e.c = c e.v) : minE (e.u : Int) (e.v : Int) es = c e.v - c e.u ∧ c e.u < c e.v ∧ minE (e.u : Int) (e.v : Int) es ≠ 1099511627776 := by
  obtain ⟨e1, e2, e3, e4⟩ := hE e he
  obtain ⟨x, hx, hex⟩ := nes_mem he
  have hr := hR x hx
  have hxu : x.u = (e.u : Int) := by rw [hex]; simp; omega
  have hxv : x.v = (e.v : Int) := by rw [hex]; simp; omega
  have hxc : x.c = e.c := by rw [hex]
  obtain ⟨g1, g2, g3⟩ := minE_fold (e.u : Int) (e.v : Int) es 1099511627776
  have h1 := g2 x hx hxu hxv
  change minE (e.u : Int) (e.v : Int) es ≤ x.c at h1
  have h2 : minE (e.u : Int) (e.v : Int) es = e.c := by
    rcases g3 with g3 | ⟨y, hy, hyu, hyv, hyc⟩
    · change minE (e.u : Int) (e.v : Int) es = _ at g3; omega
    · change y.c = minE (e.u : Int) (e.v : Int) es at hyc
      have hyE : (⟨e.u, e.v, y.c⟩ : NE) ∈ nes es := List.mem_map.2 ⟨y, hy, by rw [hyu, hyv]; simp⟩
      have h3 := look_le (c := c) hyE
      rw [← hL.lk e.v e2 hs (fun e => e)] at h3
      simp only at h3
      omega
  omega
/-- one edge's cost is another: only the place it leads to looks else -/
theorem look_edit {es : List Ed} {c : Nat → Int} {i v : Nat} (hi : i < es.length) (y : Int) (hv : (es[i].v).toNat ≠ v) : lookOf (nes (es.set i ⟨es[i].u, es[i].v, y⟩)) c v = lookOf (nes es) c v := by
  have key : ∀ (L : List NE) (i : Nat) (x : NE) (h : i < L.length), L[i].v ≠ v → x.v ≠ v → (L.set i x).filter (fun e => decide (e.v = v)) = L.filter (fun e => decide (e.v = v)) := by
    intro L
    induction L with
    | nil => intro i x h; simp at h
    | cons a r ih =>
      intro i x h h1 h2
      cases i with
      | zero =>
        simp only [List.getElem_cons_zero] at h1
        simp [List.set_cons_zero, h1, h2]
      | succ i =>
        simp only [List.getElem_cons_succ] at h1
        simp only [List.set_cons_succ, List.filter_cons, ih i x (by simpa using h) h1 h2]
  unfold lookOf
  have e : nes (es.set i ⟨es[i].u, es[i].v, y⟩) = (nes es).set i ⟨es[i].u.toNat, es[i].v.toNat, y⟩ := by simp [nes, List.map_set]
  rw [e, key (nes es) i _ (by simpa [nes] using hi) (by simpa [nes] using hv) hv]
theorem lok_edit {n s : Nat} {es : List Ed} {c l : Nat → Int} {i : Nat} (h : LOk n s (nes es) c l (fun _ => False)) (hi : i < es.length) (y : Int) : LOk n s (nes (es.set i ⟨es[i].u, es[i].v, y⟩)) c l (fun x => x = (es[i].v).toNat) :=
  ⟨h.cb, h.lb, h.ls, fun v hv hs hd => by rw [look_edit hi y (fun e => hd e.symm)]; exact h.lk v hv hs (fun e => e)⟩
end Go.Proofs.Ytcehdpeeaogpiaa

/-! A plan (life) in memory: its object, its edges, its rows, its heap; what changes when one of them is written. No condition. -/
namespace Go.Proofs.Ytcehdpeeaogpiaa
open Go.RowKit
set_option linter.unusedSimpArgs false
set_option linter.unusedVariables false
/-- what a call began with: its world, and what was the object's own then -/
class LFr where
  w0 : World
  B : Nat → Prop
@[reducible] def LFr.from (w : World) (A : Nat → Prop) : LFr := ⟨w, A⟩
/-- the blocks that it writes -/
def LXb (pb gc gl gh : Nat) (ev : Value) (j : Nat) : Prop := j = pb ∨ j = gc ∨ j = gl ∨ j = gh ∨ ev.ownBlock = some j
/-- what all that was its own is, and what is new -/
def LNf [LFr] (A : Nat → Prop) (wr : World) : Prop := Keep LFr.B LFr.w0 wr ∧ ∀ j, A j → LFr.B j ∨ LFr.w0.heap.size ≤ j
theorem LNf.keep [LFr] {A A' T : Nat → Prop} {wr w' : World} (h : LNf A wr) (kp : Keep T wr w') (hT : ∀ j, T j → A j ∨ LFr.w0.heap.size ≤ j) (hA : ∀ j, A' j → A j ∨ wr.heap.size ≤ j) : LNf A' w' := by
  refine ⟨h.1.trans2 kp (fun j hj => (hT j hj).elim (h.2 j) .inr), fun j hj => (hA j hj).elim (h.2 j) (fun e => .inr (Nat.le_trans h.1.size e))⟩
structure LX [LFr] (n pb gc gl gh cc cl I O : Nat) (ev : Value) (fr tg : Int) (es : List Ed) (v : Value) (q : Nat) (f : Nat → Ed) (c l : Nat → Int) (wk : Nat) (wS wr : World) : Prop where
  c0 : wr.cell? ⟨pb, 0, none⟩ = some (.int .i64 (n : Int))
  c1 : wr.cell? ⟨pb, 1, none⟩ = some ev
  c2 : wr.cell? ⟨pb, 2, none⟩ = some (.slice (some ⟨I, 0, none⟩) n n)
  c3 : wr.cell? ⟨pb, 3, none⟩ = some (.slice (some ⟨O, 0, none⟩) n n)
  c4 : wr.cell? ⟨pb, 4, none⟩ = some (.int .i64 fr)
  c5 : wr.cell? ⟨pb, 5, none⟩ = some (.int .i64 tg)
  c6 : wr.cell? ⟨pb, 6, none⟩ = some (.slice (some ⟨gc, 0, none⟩) n cc)
  c7 : wr.cell? ⟨pb, 7, none⟩ = some (.slice (some ⟨gl, 0, none⟩) n cl)
  c8 : wr.cell? ⟨pb, 8, none⟩ = some (.pointer (some ⟨gh, 0, none⟩))
  c9 : wr.cell? ⟨pb, 9, none⟩ = some (.int .i64 (wk : Int))
  fz : ∀ o, wr.frozen? ⟨pb, o, none⟩ = false
  eo : Own encE 3 34 wr 0 ev es
  cost : Own encI 1 3 wr 0 (.slice (some ⟨gc, 0, none⟩) n cc) (LI n c)
  look : Own encI 1 3 wr 0 (.slice (some ⟨gl, 0, none⟩) n cl) (LI n l)
  heap : HeapS wr gh gh (.func (.func 117) #[] #[]) v q f
  keep : Keep (LXb pb gc gl gh ev) wS wr
  hs : ∀ j, v.ownBlock = some j → wS.heap.size ≤ j
  lt : pb < wS.heap.size ∧ gc < wS.heap.size ∧ gl < wS.heap.size ∧ gh < wS.heap.size ∧ ∀ j, ev.ownBlock = some j → j < wS.heap.size
  ne : (pb ≠ gc ∧ pb ≠ gl ∧ pb ≠ gh ∧ gc ≠ gl ∧ gc ≠ gh ∧ gl ≠ gh) ∧ ∀ j, ev.ownBlock = some j → j ≠ pb ∧ j ≠ gc ∧ j ≠ gl ∧ j ≠ gh
  nf : LNf (fun j => LXb pb gc gl gh ev j ∨ v.ownBlock = some j) wr
section
variable [LFr]
variable {n pb gc gl gh cc cl I O : Nat} {ev : Value} {fr tg : Int} {es : List Ed} {v : Value} {q : Nat} {f : Nat → Ed} {c l : Nat → Int} {wk : Nat} {wS wr w' : World}
theorem LX.big (h : LX n pb gc gl gh cc cl I O ev fr tg es v q f c l wk wS wr) : wS.heap.size ≤ wr.heap.size := h.keep.size
theorem LX.own_lt (h : LX n pb gc gl gh cc cl I O ev fr tg es v q f c l wk wS wr) {j : Nat} (hj : LXb pb gc gl gh ev j) : j < wS.heap.size := by
  have hl := h.lt
  rcases hj with g | g | g | g | g
  · omega
  · omega
  · omega
  · omega
  · exact hl.2.2.2.2 j g
/-- nothing that it has is touched -/
theorem LX.stays (h : LX n pb gc gl gh cc cl I O ev fr tg es v q f c l wk wS wr) (b : Below wr.heap.size wr w') : LX n pb gc gl gh cc cl I O ev fr tg es v q f c l wk wS w' := by
  have kp : Keep (fun _ => False) wr w' := Keep.new b
  exact ⟨kp.cu h.c0 id, kp.cu h.c1 id, kp.cu h.c2 id, kp.cu h.c3 id, kp.cu h.c4 id, kp.cu h.c5 id, kp.cu h.c6 id, kp.cu h.c7 id, kp.cu h.c8 id, kp.cu h.c9 id, fun o => (kp.frozen (p := ⟨pb, o, none⟩) (show pb < _ from cell_lt h.c0) id).trans (h.fz o),
    kp.own h.eo (fun _ _ => id), kp.own h.cost (fun _ _ => id), kp.own h.look (fun _ _ => id), h.heap.keep kp id (fun _ _ => id), h.keep.trans2 kp (fun j hj => hj.elim), h.hs, h.lt, h.ne, h.nf.keep kp (fun j hj => hj.elim) (fun j hj => .inl hj)⟩
/-- what else holds when one block of its own, but not the object, is written -/
theorem LX.own (h : LX n pb gc gl gh cc cl I O ev fr tg es v q f c l wk wS wr) {T : Nat → Prop} (kp : Keep T wr w') (hT : ∀ j, T j → LXb pb gc gl gh ev j) (h1 : ¬ T pb) :
    (w'.cell? ⟨pb, 0, none⟩ = some (.int .i64 (n : Int)) ∧ w'.cell? ⟨pb, 1, none⟩ = some ev ∧ w'.cell? ⟨pb, 2, none⟩ = some (.slice (some ⟨I, 0, none⟩) n n) ∧ w'.cell? ⟨pb, 3, none⟩ = some (.slice (some ⟨O, 0, none⟩) n n) ∧ w'.cell? ⟨pb, 4, none⟩ = some (.int .i64 fr) ∧ w'.cell? ⟨pb, 5, none⟩ = some (.int .i64 tg) ∧ w'.cell? ⟨pb, 6, none⟩ = some (.slice (some ⟨gc, 0, none⟩) n cc) ∧ w'.cell? ⟨pb, 7, none⟩ = some (.slice (some ⟨gl, 0, none⟩) n cl) ∧ w'.cell? ⟨pb, 8, none⟩ = some (.pointer (some ⟨gh, 0, none⟩)) ∧ w'.cell? ⟨pb, 9, none⟩ = some (.int .i64 (wk : Int))) ∧
    (∀ o, w'.frozen? ⟨pb, o, none⟩ = false) ∧ Keep (LXb pb gc gl gh ev) wS w' ∧ LNf (fun j => LXb pb gc gl gh ev j ∨ v.ownBlock = some j) w' :=
  ⟨⟨kp.cu h.c0 h1, kp.cu h.c1 h1, kp.cu h.c2 h1, kp.cu h.c3 h1, kp.cu h.c4 h1, kp.cu h.c5 h1, kp.cu h.c6 h1, kp.cu h.c7 h1, kp.cu h.c8 h1, kp.cu h.c9 h1⟩, fun o => (kp.frozen (p := ⟨pb, o, none⟩) (show pb < _ from cell_lt h.c0) h1).trans (h.fz o), h.keep.trans2 kp (fun j hj => .inl (hT j hj)), h.nf.keep kp (fun j hj => .inl (.inl (hT j hj))) (fun j hj => .inl hj)⟩
theorem LX.setC (h : LX n pb gc gl gh cc cl I O ev fr tg es v q f c l wk wS wr) (u : Nat) (hu : u < n) (x : Int) : LX n pb gc gl gh cc cl I O ev fr tg es v q f (upz c u x) l wk wS (wr.setCell ⟨gc, u, none⟩ (.int .i64 x)) := by
  have hn := h.ne
  have hl := h.lt
  have kp := (Keep.refl (fun j => j = gc) wr).setCell (p := ⟨gc, u, none⟩) (.inl rfl) (.int .i64 x)
  obtain ⟨⟨a0, a1, a2, a3, a4, a5, a6, a7, a8, a9⟩, b1, b2, b3⟩ := h.own kp (fun j hj => .inr (.inl hj)) (fun e => hn.1.1 e)
  exact ⟨a0, a1, a2, a3, a4, a5, a6, a7, a8, a9, b1, kp.own h.eo (fun j hj e => (hn.2 j hj).2.1 e), h.cost.setI u hu x, kp.own h.look (fun j hj => by simp [Value.ownBlock] at hj; omega), h.heap.keep kp (by omega) (fun j hj e => by have := h.hs j hj; omega), b2, h.hs, h.lt, h.ne, b3⟩
theorem LX.setL (h : LX n pb gc gl gh cc cl I O ev fr tg es v q f c l wk wS wr) (u : Nat) (hu : u < n) (x : Int) : LX n pb gc gl gh cc cl I O ev fr tg es v q f c (upz l u x) wk wS (wr.setCell ⟨gl, u, none⟩ (.int .i64 x)) := by
  have hn := h.ne
  have hl := h.lt
  have kp := (Keep.refl (fun j => j = gl) wr).setCell (p := ⟨gl, u, none⟩) (.inl rfl) (.int .i64 x)
  obtain ⟨⟨a0, a1, a2, a3, a4, a5, a6, a7, a8, a9⟩, b1, b2, b3⟩ := h.own kp (fun j hj => .inr (.inr (.inl hj))) (fun e => hn.1.2.1 e)
  exact ⟨a0, a1, a2, a3, a4, a5, a6, a7, a8, a9, b1, kp.own h.eo (fun j hj e => (hn.2 j hj).2.2.1 e), kp.own h.cost (fun j hj => by simp [Value.ownBlock] at hj; omega), h.look.setI u hu x, h.heap.keep kp (by omega) (fun j hj e => by have := h.hs j hj; omega), b2, h.hs, h.lt, h.ne, b3⟩
/-- the heap is another: its own block, its slice as it was and grown, or fresh -/
theorem LX.setH (h : LX n pb gc gl gh cc cl I O ev fr tg es v q f c l wk wS wr) {v' : Value} {q' : Nat} {f' : Nat → Ed} (kp : Keep (fun j => j = gh ∨ v.ownBlock = some j) wr w') (hh : HeapS w' gh gh (.func (.func 117) #[] #[]) v' q' f') (hb : ∀ j, v'.ownBlock = some j → v.ownBlock = some j ∨ wr.heap.size ≤ j) : LX n pb gc gl gh cc cl I O ev fr tg es v' q' f' c l wk wS w' := by
  have hn := h.ne
  have hl := h.lt
  have hz := h.big
  have hno : ∀ j, j < wS.heap.size → j ≠ gh → ¬ (j = gh ∨ v.ownBlock = some j) := fun j hj hne hc => by
    rcases hc with hc | hc
    · exact hne hc
    · have := h.hs j hc; omega
  have hpb := hno pb hl.1 hn.1.2.2.1
  refine ⟨kp.cu h.c0 hpb, kp.cu h.c1 hpb, kp.cu h.c2 hpb, kp.cu h.c3 hpb, kp.cu h.c4 hpb, kp.cu h.c5 hpb, kp.cu h.c6 hpb, kp.cu h.c7 hpb, kp.cu h.c8 hpb, kp.cu h.c9 hpb, fun o => (kp.frozen (p := ⟨pb, o, none⟩) (show pb < _ from cell_lt h.c0) hpb).trans (h.fz o),
    kp.own h.eo (fun j hj => hno j (hl.2.2.2.2 j hj) (hn.2 j hj).2.2.2), kp.own h.cost (fun j hj => hno j (by simp [Value.ownBlock] at hj; omega) (by simp [Value.ownBlock] at hj; omega)), kp.own h.look (fun j hj => hno j (by simp [Value.ownBlock] at hj; omega) (by simp [Value.ownBlock] at hj; omega)), hh,
    h.keep.trans2 kp (fun j hj => ?_), fun j hj => ?_, h.lt, h.ne, h.nf.keep kp (fun j hj => .inl ?_) (fun j hj => ?_)⟩
  · rcases hj with hj | hj
    · exact .inl (.inr (.inr (.inr (.inl hj))))
    · exact .inr (h.hs j hj)
  · rcases hb j hj with g | g
    · exact h.hs j g
    · omega
  · rcases hj with hj | hj
    · exact .inl (.inr (.inr (.inr (.inl hj))))
    · exact .inr hj
  · rcases hj with hj | hj
    · exact .inl (.inl hj)
    · exact (hb j hj).imp .inr id
theorem LX.push (h : LX n pb gc gl gh cc cl I O ev fr tg es v q f c l wk wS wr) {q' : Nat} {f' : Nat → Ed} (hp : HeapedS wr gh gh (.func (.func 117) #[] #[]) v q' f' w') : ∃ gs k, LX n pb gc gl gh cc cl I O ev fr tg es (.slice (some ⟨gs, 0, none⟩) q' k) q' f' c l wk wS w' := by
  obtain ⟨gs, k, h1, kp, h3⟩ := hp
  refine ⟨gs, k, h.setH kp h1 (fun j hj => ?_)⟩
  simp only [Value.ownBlock, Option.some.injEq] at hj
  subst hj
  exact h3
theorem LX.pop (h : LX n pb gc gl gh cc cl I O ev fr tg es v q f c l wk wS wr) {gs k q' : Nat} {f' : Nat → Ed} (hv' : v.ownBlock = some gs) (h1 : HeapS w' gh gh (.func (.func 117) #[] #[]) (.slice (some ⟨gs, 0, none⟩) q' k) q' f') (kp : Keep (fun j => j = gh ∨ j = gs) wr w') : LX n pb gc gl gh cc cl I O ev fr tg es (.slice (some ⟨gs, 0, none⟩) q' k) q' f' c l wk wS w' :=
  h.setH (kp.mono (fun j _ hj => by rcases hj with hj | hj; exact .inl hj; exact .inr (by rw [hj]; exact hv'))) h1 (fun j hj => by simp only [Value.ownBlock, Option.some.injEq] at hj; subst hj; exact .inl hv')
/-- the work's cell -/
theorem LX.setW (h : LX n pb gc gl gh cc cl I O ev fr tg es v q f c l wk wS wr) (x : Nat) : LX n pb gc gl gh cc cl I O ev fr tg es v q f c l x wS (wr.setCell ⟨pb, 9, none⟩ (.int .i64 (x : Int))) := by
  have hn := h.ne
  have hl := h.lt
  have kp := (Keep.refl (fun j => j = pb) wr).setCell (p := ⟨pb, 9, none⟩) (.inl rfl) (.int .i64 (x : Int))
  exact ⟨cu_set_off h.c0 (by omega), cu_set_off h.c1 (by omega), cu_set_off h.c2 (by omega), cu_set_off h.c3 (by omega), cu_set_off h.c4 (by omega), cu_set_off h.c5 (by omega), cu_set_off h.c6 (by omega), cu_set_off h.c7 (by omega), cu_set_off h.c8 (by omega), World.cell?_setCell_same _ _ _ h.c9, fun o => fu_set (h.fz o),
    kp.own h.eo (fun j hj e => (hn.2 j hj).1 e), kp.own h.cost (fun j hj => by simp [Value.ownBlock] at hj; omega), kp.own h.look (fun j hj => by simp [Value.ownBlock] at hj; omega), h.heap.keep kp (fun e => hn.1.2.2.1 e.symm) (fun j hj e => by have := h.hs j hj; omega), h.keep.trans2 kp (fun j hj => .inl (.inl hj)), h.hs, h.lt, h.ne, h.nf.keep kp (fun j hj => .inl (.inl (.inl hj))) (fun j hj => .inl hj)⟩
/-- an edge's cost -/
theorem LX.setE {ge m ec : Nat} (h : LX n pb gc gl gh cc cl I O (.slice (some ⟨ge, 0, none⟩) m ec) fr tg es v q f c l wk wS wr) (i : Nat) (hi : i < es.length) (y : Int) : LX n pb gc gl gh cc cl I O (.slice (some ⟨ge, 0, none⟩) m ec) fr tg (es.set i ⟨es[i].u, es[i].v, y⟩) v q f c l wk wS (wr.setCell ⟨ge, i * 3 + 2, none⟩ (.int .i64 y)) := by
  have hn := h.ne
  have hl := h.lt
  have hge := hn.2 ge rfl
  have hgl := hl.2.2.2.2 ge rfl
  have kp := (Keep.refl (fun j => j = ge) wr).setCell (p := ⟨ge, i * 3 + 2, none⟩) (.inl rfl) (.int .i64 y)
  obtain ⟨⟨a0, a1, a2, a3, a4, a5, a6, a7, a8, a9⟩, b1, b2, b3⟩ := h.own kp (fun j hj => .inr (.inr (.inr (.inr (by rw [hj]; rfl))))) (fun e => hge.1 e.symm)
  exact ⟨a0, a1, a2, a3, a4, a5, a6, a7, a8, a9, b1, h.eo.put lenE i hi 2 (by omega) _ ⟨es[i].u, es[i].v, y⟩ (by simp [encE]), kp.own h.cost (fun j hj => by simp [Value.ownBlock] at hj; omega), kp.own h.look (fun j hj => by simp [Value.ownBlock] at hj; omega), h.heap.keep kp (fun e => hge.2.2.2 e.symm) (fun j hj e => by have := h.hs j hj; omega), b2, h.hs, h.lt, h.ne, b3⟩
end
theorem LX.rebase {I1 I2 : LFr} {n pb gc gl gh cc cl I O : Nat} {ev : Value} {fr tg : Int} {es : List Ed} {v : Value} {q : Nat} {f : Nat → Ed} {c l : Nat → Int} {wk : Nat} {wS wr wS' w' : World} (h : @LX I1 n pb gc gl gh cc cl I O ev fr tg es v q f c l wk wS wr) {T : Nat → Prop} (kp : Keep T wr w') (hT : ∀ j, LXb pb gc gl gh ev j ∨ v.ownBlock = some j → ¬ T j) (hs : wS'.heap.size = wS.heap.size) (hk : Keep (LXb pb gc gl gh ev) wS' w') (hf : @LNf I2 (fun j => LXb pb gc gl gh ev j ∨ v.ownBlock = some j) w') : @LX I2 n pb gc gl gh cc cl I O ev fr tg es v q f c l wk wS' w' := by
  have n1 : ¬ T pb := hT _ (.inl (.inl rfl))
  obtain ⟨g_c0, g_c1, g_c2, g_c3, g_c4, g_c5, g_c6, g_c7, g_c8, g_c9, g_fz, g_eo, g_cost, g_look, g_heap, g_keep, g_hs, g_lt, g_ne, g_nf⟩ := h
  exact ⟨kp.cu g_c0 n1, kp.cu g_c1 n1, kp.cu g_c2 n1, kp.cu g_c3 n1, kp.cu g_c4 n1, kp.cu g_c5 n1, kp.cu g_c6 n1, kp.cu g_c7 n1, kp.cu g_c8 n1, kp.cu g_c9 n1, fun o => (kp.frozen (p := ⟨pb, o, none⟩) (show pb < _ from cell_lt g_c0) n1).trans (g_fz o),
    kp.own g_eo (fun j hj => hT j (.inl (.inr (.inr (.inr (.inr hj)))))), kp.own g_cost (fun j hj => hT j (.inl (.inr (.inl (by simp only [Value.ownBlock, Option.some.injEq] at hj; exact hj.symm))))), kp.own g_look (fun j hj => hT j (.inl (.inr (.inr (.inl (by simp only [Value.ownBlock, Option.some.injEq] at hj; exact hj.symm)))))),
    g_heap.keep kp (hT _ (.inl (.inr (.inr (.inr (.inl rfl)))))) (fun j hj => hT j (.inr hj)), hk, by rw [hs]; exact g_hs, by rw [hs]; exact g_lt, g_ne, hf⟩
/-- the tables of the edges to each place, and from each place -/
structure LTab (wS : World) (lo1 hi1 lo2 hi2 n pb gc gl gh I O : Nat) (ev : Value) (es : List Ed) : Prop where
  ins : OutsAt wS lo1 hi1 I n (es.map flip)
  outs : OutsAt wS lo2 hi2 O n es
  ap : ∀ k, (lo1 ≤ k ∧ k < hi1) ∨ (lo2 ≤ k ∧ k < hi2) → ¬ LXb pb gc gl gh ev k
theorem outsAt_same {wr : World} {lo hi O n : Nat} {es es' : List Ed} (h : OutsAt wr lo hi O n es) (he : es'.map (·.u) = es.map (·.u)) : OutsAt wr lo hi O n es' := by
  have hl : es'.length = es.length := by have := congrArg List.length he; simpa using this
  have e : outRows n es' es'.length = outRows n es es.length := by unfold outRows outIdx; rw [he, hl]
  unfold OutsAt at h ⊢
  rw [e]
  exact h
theorem LTab.edit {wS : World} {lo1 hi1 lo2 hi2 n pb gc gl gh I O : Nat} {ev : Value} {es : List Ed} (h : LTab wS lo1 hi1 lo2 hi2 n pb gc gl gh I O ev es) (i : Nat) (hi : i < es.length) (y : Int) : LTab wS lo1 hi1 lo2 hi2 n pb gc gl gh I O ev (es.set i ⟨es[i].u, es[i].v, y⟩) := by
  have e1 : (es.set i ⟨es[i].u, es[i].v, y⟩).map (·.u) = es.map (·.u) := by
    rw [List.map_set]
    apply List.ext_getElem (by simp)
    intro j h1 h2
    rw [List.getElem_set]
    split
    · subst_vars; simp
    · rfl
  have e2 : ((es.set i ⟨es[i].u, es[i].v, y⟩).map flip).map (·.u) = (es.map flip).map (·.u) := by
    rw [List.map_map, List.map_map, List.map_set]
    apply List.ext_getElem (by simp)
    intro j h1 h2
    rw [List.getElem_set]
    split
    · subst_vars; simp [flip]
    · rfl
  exact ⟨outsAt_same h.ins e2, outsAt_same h.outs e1, h.ap⟩
end Go.Proofs.Ytcehdpeeaogpiaa

/-! A plan (life): what its key, its heap's Top return; how a place is put into its heap. Conditions: the object reads as LX says. -/
namespace Go.Proofs.Ytcehdpeeaogpiaa
open Go.RowKit
set_option linter.unusedSimpArgs false
set_option linter.unusedVariables false
/-- what put leaves in the heap -/
def PutTo (c l : Nat → Int) (u q : Nat) (f : Nat → Ed) (q' : Nat) (f' : Nat → Ed) : Prop := HeapOK spLt q' f' ∧ q' ≤ q + 1 ∧ (∀ p ∈ RW q f, p ∈ RW q' f') ∧ (∀ p ∈ RW q' f', p ∈ RW q f ∨ p.c = (u : Int)) ∧ (c u ≠ l u → spk c l u ∈ RW q' f')
theorem putTo_no {c l : Nat → Int} {u q : Nat} {f : Nat → Ed} (hok : HeapOK spLt q f) (h : c u = l u) : PutTo c l u q f q f := ⟨hok, Nat.le_succ _, fun _ h => h, fun _ h => .inl h, fun hn => absurd h hn⟩
theorem putTo_yes {c l : Nat → Int} {u q : Nat} {f : Nat → Ed} (hok : HeapOK spLt q f) : PutTo c l u q f (q + 1) (siftUp spLt (upz f q (spk c l u)) q) := by
  obtain ⟨h1, h2⟩ := push_ok spLt_ord hok (spk c l u)
  refine ⟨h1, Nat.le_refl _, fun p hp => h2.mem_iff.2 (List.mem_append_left _ hp), fun p hp => ?_, fun _ => h2.mem_iff.2 (List.mem_append_right _ (List.mem_singleton.2 rfl))⟩
  rcases List.mem_append.1 (h2.mem_iff.1 hp) with h | h
  · exact .inl h
  · rw [List.mem_singleton.1 h]; exact .inr rfl
section
variable [LFr]
variable {n pb gc gl gh cc cl I O : Nat} {ev : Value} {fr tg : Int} {es : List Ed} {v : Value} {q : Nat} {f : Nat → Ed} {c l : Nat → Int} {wk : Nat} {wS w : World}
set_option maxRecDepth 100000 in
set_option maxHeartbeats 4000000 in
theorem lkey_any (u : Nat) (hu : u < n) (hX : LX n pb gc gl gh cc cl I O ev fr tg es v q f c l wk wS w) :
    Calls Try.prog 183 #[.pointer (some ⟨pb, 0, none⟩), .int .i64 (u : Int)] w fun e w' => e = .returned (.agg #[.int .i64 (spk c l u).u, .int .i64 (spk c l u).v, .int .i64 (spk c l u).c]) ∧ Below w.heap.size w w' := by
  have c6 := hX.c6
  have c7 := hX.c7
  have d0 := hX.cost.atI u hu
  have d1 := hX.look.atI u hu
  have zb := cell_lt c6
  have zc := cell_lt d0
  have zl := cell_lt d1
  simp only at zb zc zl
  obtain ⟨x, hx⟩ : ∃ x, x = c u := ⟨_, rfl⟩
  obtain ⟨y, hy⟩ : ∃ y, y = l u := ⟨_, rfl⟩
  rw [← hx] at d0
  rw [← hy] at d1
  have iu : (0 : Int) ≤ (u : Int) ∧ (u : Int) < (n : Int) := by omega
  have hfin := hide (show ∀ k, k = min x y → Ending.returned (.agg #[.int .i64 k, .int .i64 k, .int .i64 (u : Int)]) = .returned (.agg #[.int .i64 (spk c l u).u, .int .i64 (spk c l u).v, .int .i64 (spk c l u).c]) from fun k hk => by rw [hk, hx, hy]; rfl)
  replace hx := hide hx
  replace hy := hide hy
  clear hX
  go_enter Try.func183, Try.ntmps183
  rcases Int.lt_or_le y x with hm | hm
  rotate_left
  · have hm2 := hide (hfin.out x (by omega))
    go_wp2
    go_region
    go_wp2
    refine bodyPost_ret (v := .agg #[.int .i64 x, .int .i64 x, .int .i64 (u : Int)]) (by simp [results, Try.results183, go_sem]) rfl ?_
    exact ⟨hm2.out, (by repeat (first | with_reducible exact Below.refl _ _ | with_reducible assumption | with_reducible refine up_drewN ?_ | with_reducible refine up_drew ?_ | (with_reducible refine up_alloc ?_ ?_; rotate_left; (first | omega | (simp <;> omega) | simp)) | (with_reducible refine up_set ?_ ?_; rotate_left; (first | omega | (simp <;> omega) | simp)) | (with_reducible refine Below.trans ?_ (Below.mono (by with_reducible assumption) ?_); rotate_left; (first | omega | (simp <;> omega) | simp))))⟩
  · have hm2 := hide (hfin.out y (by omega))
    go_wp2
    go_region
    go_wp2
    refine bodyPost_ret (v := .agg #[.int .i64 y, .int .i64 y, .int .i64 (u : Int)]) (by simp [results, Try.results183, go_sem]) rfl ?_
    exact ⟨hm2.out, (by repeat (first | with_reducible exact Below.refl _ _ | with_reducible assumption | with_reducible refine up_drewN ?_ | with_reducible refine up_drew ?_ | (with_reducible refine up_alloc ?_ ?_; rotate_left; (first | omega | (simp <;> omega) | simp)) | (with_reducible refine up_set ?_ ?_; rotate_left; (first | omega | (simp <;> omega) | simp)) | (with_reducible refine Below.trans ?_ (Below.mono (by with_reducible assumption) ?_); rotate_left; (first | omega | (simp <;> omega) | simp))))⟩
end
set_option maxHeartbeats 1000000 in
theorem topS_any (base g n gs c0 : Nat) (f : Nat → Ed) (lf : Value) (w : World) (hH : HeapS w base g lf (.slice (some ⟨gs, 0, none⟩) (n + 1) c0) (n + 1) f) :
    Calls Try.prog 186 #[.pointer (some ⟨g, 0, none⟩)] w fun e w' => e = .returned (.agg #[.int .i64 (f 0).u, .int .i64 (f 0).v, .int .i64 (f 0).c]) ∧ Below w.heap.size w w' := by
  have c1 := hH.c1
  have zg := cell_lt c1
  have hl : 0 < (RW (n + 1) f).length := by rw [rw_len]; omega
  obtain ⟨d0, d1, d2⟩ := hH.own.getE 0 hl
  rw [rw_get] at d0 d1 d2
  have zd := cell_lt d0
  simp only [Nat.zero_mul, Nat.zero_add] at d0 d1 d2 zd
  have in1 : (0 : Int) < ((n + 1 : Nat) : Int) := by omega
  obtain ⟨p, hp⟩ : ∃ p, p = f 0 := ⟨_, rfl⟩
  rw [← hp] at d0 d1 d2 ⊢
  clear hH hp hl
  go_enter Try.func186, Try.ntmps186
  go_wp2
  refine bodyPost_ret (v := .agg #[.int .i64 p.u, .int .i64 p.v, .int .i64 p.c]) (by simp [results, Try.results186, go_sem]) rfl ?_
  exact ⟨rfl, (by repeat (first | with_reducible exact Below.refl _ _ | with_reducible assumption | with_reducible refine up_drewN ?_ | with_reducible refine up_drew ?_ | (with_reducible refine up_alloc ?_ ?_; rotate_left; (first | omega | (simp <;> omega) | simp)) | (with_reducible refine up_set ?_ ?_; rotate_left; (first | omega | (simp <;> omega) | simp)) | (with_reducible refine Below.trans ?_ (Below.mono (by with_reducible assumption) ?_); rotate_left; (first | omega | (simp <;> omega) | simp))))⟩
section
variable [LFr]
variable {n pb gc gl gh cc cl I O : Nat} {ev : Value} {fr tg : Int} {es : List Ed} {a0 : Option Addr} {q qc : Nat} {f : Nat → Ed} {c l : Nat → Int} {wk : Nat} {wS w : World}
set_option maxRecDepth 100000 in
set_option maxHeartbeats 4000000 in
theorem lput_any (u : Nat) (hu : u < n) (hX : LX n pb gc gl gh cc cl I O ev fr tg es (.slice a0 q qc) q f c l wk wS w) (hq : q ≤ 100000000000) (hok : HeapOK spLt q f) :
    Calls Try.prog 119 #[.pointer (some ⟨pb, 0, none⟩), .int .i64 (u : Int)] w fun e w' => e = .returned (.tuple #[]) ∧ ∃ a1 q1 k1 f1, LX n pb gc gl gh cc cl I O ev fr tg es (.slice a1 q1 k1) q1 f1 c l wk wS w' ∧ PutTo c l u q f q1 f1 := by
  have hKy := hide (fun (w' : World) (hX' : LX n pb gc gl gh cc cl I O ev fr tg es (.slice a0 q qc) q f c l wk wS w') => lkey_any u hu hX')
  have c6 := hX.c6
  have c7 := hX.c7
  have d0 := hX.cost.atI u hu
  have d1 := hX.look.atI u hu
  have zb := cell_lt c6
  have zc := cell_lt d0
  have zl := cell_lt d1
  simp only at zb zc zl
  have iu : (0 : Int) ≤ (u : Int) ∧ (u : Int) < (n : Int) := by omega
  obtain ⟨x, hx⟩ : ∃ x, x = c u := ⟨_, rfl⟩
  obtain ⟨y, hy⟩ : ∃ y, y = l u := ⟨_, rfl⟩
  rw [← hx] at d0
  rw [← hy] at d1
  by_cases he : x = y
  · have q1 : (x != y) = false := by simp [he]
    have hp := hide (putTo_no (f := f) (l := l) (c := c) (u := u) hok (by rw [← hx, ← hy]; exact he))
    have hXn := hide (fun k => hX.stays (up_drewN (n := k) (Below.refl _ _)))
    replace hx := hide hx
    replace hy := hide hy
    replace he := hide he
    clear hX hKy hok
    go_enter Try.func119, Try.ntmps119
    go_wp2
    go_quiet (fail)
    go_wp2
    go_end0
    exact ⟨rfl, a0, q, qc, f, hXn.out nq, hp.out⟩
  · have q1 : (x != y) = true := by simp [he]
    have hp := hide (putTo_yes (c := c) (l := l) (u := u) hok)
    have hXn := hide (fun k => hX.stays (up_drewN (n := k) (Below.refl _ _)))
    obtain ⟨p, hpd⟩ : ∃ p, p = spk c l u := ⟨_, rfl⟩
    rw [← hpd] at hKy hp
    replace hpd := hide hpd
    replace hx := hide hx
    replace hy := hide hy
    replace he := hide he
    clear hX hok
    go_enter Try.func119, Try.ntmps119
    go_wp2
    go_quiet (fail)
    have hX2 := hide (hXn.out nq)
    generalize w.drewN nq = w2 at hX2 ⊢
    have hKeep := hide (show ∀ w', Below w2.heap.size w2 w' → (w'.cell? ⟨pb, 8, none⟩ = some (.pointer (some ⟨gh, 0, none⟩)) ∧ pb < w'.heap.size ∧ Hid (LX n pb gc gl gh cc cl I O ev fr tg es (.slice a0 q qc) q f c l wk wS w') ∧ Hid (Below w2.heap.size w2 w')) from fun w' hb =>
      ⟨(hX2.out.stays hb).c8, cell_lt (hX2.out.stays hb).c8, hide (hX2.out.stays hb), hide hb⟩)
    clear hX2 hXn c6 c7 d0 d1 zb zc zl
    go_upto_region 1 with fail
    refine wp_region_end (S := (fun w' => w'.cell? ⟨pb, 8, none⟩ = some (.pointer (some ⟨gh, 0, none⟩)) ∧ pb < w'.heap.size ∧ Hid (LX n pb gc gl gh cc cl I O ev fr tg es (.slice a0 q qc) q f c l wk wS w') ∧ Hid (Below w2.heap.size w2 w'))) (t := 7) (by kernel_rfl) ?_ (fun hHeld hInv => ?_)
    · exact hKeep.out _ (up_drew (Below.refl _ _))
    replace hInv := hide hInv
    refine planE [0, 1, 2, 3, 4, 5] ?_
    iterate 6
      refine PlanE.take (v := ?_) (List.getElem?_toArray.trans rfl) (by kernel_rfl) (fun _ _ _ h => h) (Or.inl ⟨by rfl, ?_⟩) hInv.out (by assumption) (fun hInv' => ?_)
      rotate_left
      · intro w hSw; (try dsimp only at hSw); go_simp; (try with_reducible rfl)
      replace hInv := hide hInv'; clear hInv'; try simp only [Act.put, List.setIfInBounds_toArray, List.set_cons_zero, List.set_cons_succ]
    refine wpAnyE_one (i := 6) (List.getElem?_toArray.trans rfl) (by kernel_rfl) (fun K hK => ?_) hInv.out
    (go_simp; refine (hKy.out _ hHeld.2.2.1.out).mono ?_; rintro e w4 ⟨rfl, hb4⟩)
    have hHeld := hKeep.out _ (hHeld.2.2.2.out.trans (hb4.mono hHeld.2.2.2.out.size))
    refine hK.out _ _ (fun _ => hHeld) (fun hInv' => ?_)
    clear hK K; replace hInv := hide (hInv' (by decide)); clear hInv'; try simp only [Act.put, List.setIfInBounds_toArray, List.set_cons_zero, List.set_cons_succ]
    refine wpAnyE_one (i := 7) (List.getElem?_toArray.trans rfl) (by kernel_rfl) (fun K hK => ?_) hInv.out
    (go_simp; refine (pushS_any gh gh q a0 qc f p _ hHeld.2.2.1.out.heap (by omega)).mono ?_; rintro e w5 ⟨rfl, hP⟩)
    refine hK.out _ _ (fun h => absurd rfl h) (fun _ => ?_)
    clear hK K hInv; try simp only [Act.put, List.setIfInBounds_toArray, List.set_cons_zero, List.set_cons_succ]
    refine wpAnyE_done (by kernel_rfl) ?_ _
    obtain ⟨gs, cs, hX3⟩ := hHeld.2.2.1.out.push hP
    replace hX3 := hide hX3
    clear hP hHeld
    go_wp2
    go_end0
    exact ⟨rfl, _, _, _, _, hX3.out, hp.out⟩
end
end Go.Proofs.Ytcehdpeeaogpiaa
