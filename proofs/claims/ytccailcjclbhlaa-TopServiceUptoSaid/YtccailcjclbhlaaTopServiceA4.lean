/-
  A part of the proof of ServePlays: HpA StarPC
-/
import Derived.Test.YtccailcjclbhlaaTopServiceA2
import Derived.LoopTactic
import Derived.BigQuiet
import Derived.BigRegion
import Derived.StillTailTactics
import Derived.Deep.QuietTactic
import Derived.Deep.RegionLaw
import Derived.Deep.RegionHeld3
import Derived.WalkSpells
import Derived.WalkLawsBesides
import Derived.Test.YtccailcjclbhlaaTopServiceA1
/-! Several texts in one: -/
/-! heap.New and Len over pairs. Conditions: none. -/
namespace Go.Proofs.Ytccailcjclbhlaa
open Go.RowKit
set_option linter.unusedSimpArgs false
set_option linter.unusedVariables false
/- 111 -/
/-- a new heap: empty -/
theorem HeapAt.fresh (w : World) (lf : Value) (f : Nat → P2) (t : TypeId) : HeapAt (w.alloc (.cells #[lf, .slice none 0 0] t)) w.heap.size w.heap.size lf (.slice none 0 0) 0 f :=
  ⟨Nat.le_refl _, by simp, by simp [go_sem], by simp [go_sem], by simp [go_sem], Own.nil _ _, by simp [Value.ownBlock]⟩
/-- another world keeps what S leaves alone -/
theorem Keep.trans2 {S T : Nat → Prop} {a b c : World} (h : Keep S a b) (k : Keep T b c) (hT : ∀ k, T k → S k ∨ a.heap.size ≤ k) : Keep S a c :=
  ⟨k.os.trans h.os, k.tape.trans h.tape, k.output.trans h.output, Nat.le_trans h.size k.size, fun i hi hs => (k.block i (Nat.lt_of_lt_of_le hi h.size) (fun ht => by
    rcases hT i ht with h1 | h1
    · exact hs h1
    · omega)).trans (h.block i hi hs)⟩
theorem new_any (F : Nat) (w : World) : Calls Try.prog 40 #[.func (.func F) #[] #[]] w fun e w' => e = .returned (.pointer (some ⟨w.heap.size, 0, none⟩)) ∧ w' = w.alloc (.cells #[.func (.func F) #[] #[], .slice none 0 0] 125) := by
  go_enter Try.func40, Try.ntmps40
  go_wp2
  go_ret
  exact ⟨rfl, rfl⟩
theorem len_any (g : Nat) (a : Option Addr) (n c : Nat) (w : World) (hc : w.cell? ⟨g, 1, none⟩ = some (.slice a n c)) : Calls Try.prog 43 #[.pointer (some ⟨g, 0, none⟩)] w fun e w' => e = .returned (.int .i64 (n : Int)) ∧ w = w' := by
  go_enter Try.func43, Try.ntmps43
  go_wp2
  go_ret
  exact ⟨rfl, rfl⟩
end Go.Proofs.Ytccailcjclbhlaa

/-! A heap of places (key, guess, number): which is less, what it holds; New, Len, Less. Conditions: none. -/
namespace Go.Proofs.Ytccailcjclbhlaa
open Go.RowKit
set_option linter.unusedSimpArgs false
set_option linter.unusedVariables false
/-- less: by key, then by guess, then by number -/
def plLt (a b : Ed) : Bool := decide (a.u < b.u ∨ (a.u = b.u ∧ (a.v < b.v ∨ (a.v = b.v ∧ a.c < b.c))))
theorem plLt_ord : Ord plLt := by
  constructor
  · intro a; simp [plLt]
  · intro a b h; simp only [plLt, decide_eq_true_eq, decide_eq_false_iff_not] at *; omega
  · intro a b c h1 h2; simp only [plLt, decide_eq_false_iff_not] at *; omega
theorem info_place : (Try.prog.info? 92).map (fun i => (i.zero, i.size, i.bytes)) = some (some (.agg #[.int .i64 0, .int .i64 0, .int .i64 0]), 3, 24) := by kernel_rfl
theorem Own.putT {e : TypeId} {w : World} {base : Nat} {xs : List Ed} {g n c : Nat} (h : Own encE 3 e w base (.slice (some ⟨g, 0, none⟩) n c) xs) (i : Nat) (hi : i < xs.length) (p : Ed) :
    Own encE 3 e (((w.setCell ⟨g, i * 3, none⟩ (.int .i64 p.u)).setCell ⟨g, i * 3 + 1, none⟩ (.int .i64 p.v)).setCell ⟨g, i * 3 + 2, none⟩ (.int .i64 p.c)) base (.slice (some ⟨g, 0, none⟩) n c) (xs.set i p) := by
  have h1 := h.put lenE i hi 0 (by omega) (.int .i64 p.u) ⟨p.u, xs[i].v, xs[i].c⟩ rfl
  have h2 := h1.put lenE i (by simpa using hi) 1 (by omega) (.int .i64 p.v) ⟨p.u, p.v, xs[i].c⟩ (by simp [encE])
  have h3 := h2.put lenE i (by simpa using hi) 2 (by omega) (.int .i64 p.c) p (by simp [encE])
  rw [List.set_set, List.set_set] at h3
  simpa using h3
/-- the heap at g holds the n first of f; lf says which is less -/
structure HeapT (w : World) (base g : Nat) (lf v : Value) (n : Nat) (f : Nat → Ed) : Prop where
  bg : base ≤ g
  lt : g < w.heap.size
  c0 : w.cell? ⟨g, 0, none⟩ = some lf
  c1 : w.cell? ⟨g, 1, none⟩ = some v
  f1 : w.frozen? ⟨g, 1, none⟩ = false
  own : Own encE 3 92 w base v (RW n f)
  ap : v.ownBlock ≠ some g
theorem HeapT.keep {S : Nat → Prop} {w w' : World} {base g n : Nat} {lf v : Value} {f : Nat → Ed} (h : HeapT w base g lf v n f) (k : Keep S w w') (hg : ¬ S g) (hv : ∀ k, v.ownBlock = some k → ¬ S k) : HeapT w' base g lf v n f :=
  ⟨h.bg, Nat.lt_of_lt_of_le h.lt k.size, k.cu h.c0 hg, k.cu h.c1 hg, (k.frozen (p := ⟨g, 1, none⟩) h.lt hg).trans h.f1, k.own h.own hv, h.ap⟩
theorem HeapT.stays {w w' : World} {base g n : Nat} {lf v : Value} {f : Nat → Ed} (h : HeapT w base g lf v n f) (k : Below w.heap.size w w') : HeapT w' base g lf v n f :=
  h.keep (Keep.new (S := fun _ => False) k) (fun h => h) (fun _ _ h => h)
theorem HeapT.drew {w : World} {base g n : Nat} {lf v : Value} {f : Nat → Ed} (h : HeapT w base g lf v n f) : HeapT w.drew base g lf v n f := ⟨h.bg, h.lt, h.c0, h.c1, h.f1, h.own.drew, h.ap⟩
theorem HeapT.alloc {w : World} {base g n : Nat} {lf v : Value} {f : Nat → Ed} (h : HeapT w base g lf v n f) (o : Obj) : HeapT (w.alloc o) base g lf v n f := h.stays ((Below.refl _ _).alloc (Nat.le_refl _) o)
/-- two exchanged -/
theorem HeapT.swap {w : World} {base g n gs m c : Nat} {lf : Value} {f : Nat → Ed} (h : HeapT w base g lf (.slice (some ⟨gs, 0, none⟩) m c) n f) {i k : Nat} (hi : i < n) (hk : k < n) :
    HeapT ((((((w.setCell ⟨gs, i * 3, none⟩ (.int .i64 (f k).u)).setCell ⟨gs, i * 3 + 1, none⟩ (.int .i64 (f k).v)).setCell ⟨gs, i * 3 + 2, none⟩ (.int .i64 (f k).c)).setCell ⟨gs, k * 3, none⟩ (.int .i64 (f i).u)).setCell ⟨gs, k * 3 + 1, none⟩ (.int .i64 (f i).v)).setCell ⟨gs, k * 3 + 2, none⟩ (.int .i64 (f i).c)) base g lf (.slice (some ⟨gs, 0, none⟩) m c) n (swf f i k) := by
  have hne : gs ≠ g := fun e => h.ap (by rw [e]; rfl)
  have h1 := h.own.putT i (by rw [rw_len]; exact hi) (f k)
  have h2 := h1.putT k (by rw [List.length_set, rw_len]; exact hk) (f i)
  rw [rw_set, rw_set] at h2
  have kp := hide (((((((hide (Keep.refl (fun k => k = gs) w)).out.setCell (p := ⟨gs, i * 3, none⟩) (.inl rfl) (.int .i64 (f k).u)).setCell (p := ⟨gs, i * 3 + 1, none⟩) (.inl rfl) (.int .i64 (f k).v)).setCell (p := ⟨gs, i * 3 + 2, none⟩) (.inl rfl) (.int .i64 (f k).c)).setCell (p := ⟨gs, k * 3, none⟩) (.inl rfl) (.int .i64 (f i).u)).setCell (p := ⟨gs, k * 3 + 1, none⟩) (.inl rfl) (.int .i64 (f i).v)).setCell (p := ⟨gs, k * 3 + 2, none⟩) (.inl rfl) (.int .i64 (f i).c))
  replace kp := kp.out
  have hng : ¬ (g = gs) := fun e => hne e.symm
  exact ⟨h.bg, Nat.lt_of_lt_of_le h.lt kp.size, kp.cu h.c0 hng, kp.cu h.c1 hng, (kp.frozen (p := ⟨g, 1, none⟩) h.lt hng).trans h.f1, h2, h.ap⟩
/-- a new heap: empty -/
theorem HeapT.fresh (w : World) (lf : Value) (f : Nat → Ed) (t : TypeId) : HeapT (w.alloc (.cells #[lf, .slice none 0 0] t)) w.heap.size w.heap.size lf (.slice none 0 0) 0 f :=
  ⟨Nat.le_refl _, by simp, by simp [go_sem], by simp [go_sem], by simp [go_sem], Own.nil _ _, by simp [Value.ownBlock]⟩
set_option maxHeartbeats 2000000 in
theorem lessT_any (p q : Ed) (w : World) :
    Calls Try.prog 36 #[.agg #[.int .i64 p.u, .int .i64 p.v, .int .i64 p.c], .agg #[.int .i64 q.u, .int .i64 q.v, .int .i64 q.c]] w fun e w' => e = .returned (.bool (plLt p q)) ∧ Below w.heap.size w w' := by
  go_enter Try.func36, Try.ntmps36
  by_cases h1 : p.u = q.u
  · have q1 : (p.u != q.u) = false := by simp [h1]
    by_cases h2 : p.v < q.v
    · have e1 : plLt p q = true := by simp [plLt, h1, h2]
      rw [e1]
      replace h1 := hide h1
      go_wp2
      go_ret
      exact ⟨rfl, bel⟩
    · by_cases h3 : p.v = q.v
      · have q3 : (p.v == q.v) = true := by simp [h3]
        have e1 : plLt p q = decide (p.c < q.c) := by simp [plLt, h1, h3]
        rw [e1]
        have h4 : (p.v < q.v) = False := by simp [h2]
        replace h1 := hide h1
        replace h3 := hide h3
        go_wp2
        go_ret
        exact ⟨rfl, bel⟩
      · have q3 : (p.v == q.v) = false := by simp [h3]
        have e1 : plLt p q = false := by simp [plLt, h1, h2, h3]
        rw [e1]
        have h4 : (p.v < q.v) = False := by simp [h2]
        replace h1 := hide h1
        go_wp2
        go_ret
        exact ⟨rfl, bel⟩
  · have q1 : (p.u != q.u) = true := by simp [h1]
    have e1 : plLt p q = decide (p.u < q.u) := by simp [plLt, h1]
    rw [e1]
    go_wp2
    go_ret
    exact ⟨rfl, bel⟩
theorem newT_any (F : Nat) (w : World) : Calls Try.prog 35 #[.func (.func F) #[] #[]] w fun e w' => e = .returned (.pointer (some ⟨w.heap.size, 0, none⟩)) ∧ w' = w.alloc (.cells #[.func (.func F) #[] #[], .slice none 0 0] 118) := by
  go_enter Try.func35, Try.ntmps35
  go_wp2
  go_ret
  exact ⟨rfl, rfl⟩
theorem lenT_any (g : Nat) (a : Option Addr) (n c : Nat) (w : World) (hc : w.cell? ⟨g, 1, none⟩ = some (.slice a n c)) : Calls Try.prog 55 #[.pointer (some ⟨g, 0, none⟩)] w fun e w' => e = .returned (.int .i64 (n : Int)) ∧ w = w' := by
  go_enter Try.func55, Try.ntmps55
  go_wp2
  go_ret
  exact ⟨rfl, rfl⟩
end Go.Proofs.Ytccailcjclbhlaa

/-! heap.Push over places. Conditions: bounds on the length. -/
namespace Go.Proofs.Ytccailcjclbhlaa
open Go.RowKit
set_option linter.unusedSimpArgs false
set_option linter.unusedVariables false
/-- what Push keeps -/
def HeapedT (w : World) (base g : Nat) (lf v : Value) (n : Nat) (f : Nat → Ed) (w' : World) : Prop :=
  ∃ gs c, HeapT w' base g lf (.slice (some ⟨gs, 0, none⟩) n c) n f ∧ Keep (fun k => k = g ∨ v.ownBlock = some k) w w' ∧ (v.ownBlock = some gs ∨ w.heap.size ≤ gs)
theorem HeapT.cells {w : World} {base g gs n c : Nat} {lf : Value} {f : Nat → Ed} (h : HeapT w base g lf (.slice (some ⟨gs, 0, none⟩) n c) n f) (i : Nat) (hi : i < n) :
    w.cell? ⟨gs, i * 3, none⟩ = some (.int .i64 (f i).u) ∧ w.cell? ⟨gs, i * 3 + 1, none⟩ = some (.int .i64 (f i).v) ∧ w.cell? ⟨gs, i * 3 + 2, none⟩ = some (.int .i64 (f i).c) := by
  have := h.own.getE i (by rw [rw_len]; exact hi)
  rw [rw_get] at this
  exact this
theorem HeapT.frees {w : World} {base g gs n c : Nat} {lf : Value} {f : Nat → Ed} (h : HeapT w base g lf (.slice (some ⟨gs, 0, none⟩) n c) n f) (i : Nat) : w.frozen? ⟨gs, i, none⟩ = false := h.own.free i
/-- behind the append -/
theorem HeapT.grew {w w2 : World} {base g n : Nat} {lf v : Value} {f : Nat → Ed} {p : Ed} (h : HeapT w base g lf v n f) {E X : Obj} {gs cap' : Nat}
    (own2 : w2.ownsRow base 92 3 (.slice (some ⟨gs, 0, none⟩) (n + 1) cap') (n + 1) ((RW n f).flatMap encE ++ [.int .i64 p.u, .int .i64 p.v, .int .i64 p.c])) (hg2 : ((w.alloc E).alloc X).drew.grownBy w2 v.ownBlock) (hat : v.ownBlock = some gs ∨ gs = w.heap.size + 1 + 1) :
    HeapT (w2.setCell ⟨g, 1, none⟩ (.slice (some ⟨gs, 0, none⟩) (n + 1) cap')) base g lf (.slice (some ⟨gs, 0, none⟩) (n + 1) cap') (n + 1) (upz f n p) ∧ Keep (fun k => k = g ∨ v.ownBlock = some k) w (w2.setCell ⟨g, 1, none⟩ (.slice (some ⟨gs, 0, none⟩) (n + 1) cap')) := by
  have hlt := h.lt
  have hne : gs ≠ g := by
    rintro rfl
    rcases hat with e | e
    · exact h.ap e
    · omega
  have k0 := hg2.cell (a := ⟨g, 0, none⟩) (cu_drew (cu_alloc (cu_alloc h.c0))) (fun e => h.ap e.symm)
  have k1 := hg2.cell (a := ⟨g, 1, none⟩) (cu_drew (cu_alloc (cu_alloc h.c1))) (fun e => h.ap e.symm)
  have k2 := hg2.frozen_far ⟨g, 1, none⟩ (by simp; omega) (fun e => h.ap e.symm)
  have hf : ((w.alloc E).alloc X).drew.frozen? ⟨g, 1, none⟩ = false := by
    have hb : Below w.heap.size w ((w.alloc E).alloc X).drew := up_drew (up_alloc (up_alloc (Below.refl _ _) (Nat.le_refl _)) (by simp))
    exact (hb.frozen (p := ⟨g, 1, none⟩) hlt).trans h.f1
  rw [hf] at k2
  have hsz : w.heap.size ≤ w2.heap.size := by have := hg2.size; simp at this; omega
  have own' : Own encE 3 92 w2 base (.slice (some ⟨gs, 0, none⟩) (n + 1) cap') (RW (n + 1) (upz f n p)) := by
    rw [rw_push]
    unfold Own
    rw [List.length_append, rw_len, List.flatMap_append]
    exact own2
  refine ⟨⟨h.bg, by simp; omega, ?_, ?_, fu_set k2, own'.elsewhere (by simp [Value.ownBlock]; exact hne) _, by simp [Value.ownBlock]; exact hne⟩, ?_⟩
  · exact cu_set_off k0 (by omega)
  · exact World.cell?_setCell_same _ _ _ k1
  · have hkp : Keep (fun k => k = g ∨ v.ownBlock = some k) w ((w.alloc E).alloc X).drew := (((Keep.refl _ w).alloc E).alloc X).drew
    exact (hkp.grown hg2 (fun k hk => .inl (.inr hk))).setCell (.inl (.inl rfl)) _
set_option maxRecDepth 100000 in
set_option maxHeartbeats 4000000 in
theorem pushT_any (base g n : Nat) (a0 : Option Addr) (c0 : Nat) (f : Nat → Ed) (p : Ed) (w : World) (hH : HeapT w base g (.func (.func 36) #[] #[]) (.slice a0 n c0) n f) (hn : n ≤ 1000000) :
    Calls Try.prog 54 #[.pointer (some ⟨g, 0, none⟩), .agg #[.int .i64 p.u, .int .i64 p.v, .int .i64 p.c]] w fun e w' => e = .returned (.tuple #[]) ∧ HeapedT w base g (.func (.func 36) #[] #[]) (.slice a0 n c0) (n + 1) (siftUp plLt (upz f n p) n) w' := by
  obtain ⟨i0, hi, hz0, hz1, hz2⟩ := info_parts info_place
  have hg := hH.lt
  have hbg := hH.bg
  have hc0 := hH.c0
  have hc1 := hH.c1
  have hf1 := hH.f1
  have hown := hH.own
  have hap := hH.ap
  go_enter Try.func54, Try.ntmps54
  have hH' := hide hH
  have hblk := hide hown.block_lt
  unfold Own at hown
  rw [rw_len] at hown
  replace hown := hide hown
  have ha : (Value.slice a0 n c0).ownBlock ≠ some g := hap
  have hsz : base ≤ w.heap.size := by omega
  clear hap hH
  go_wp2
  go_region_law (first | (refine step_append_lies _ rfl (.tmp 10) (.tmp 12) 116 rfl base 92 i0 (.agg #[.int .i64 0, .int .i64 0, .int .i64 0]) 3 24 Try.underlying116 hi hz0 hz1 hz2 rfl (by decide) (.slice a0 n c0) n _ rfl (World.ownsRow.drew (World.ownsRow.alloc (World.ownsRow.alloc hown.out _) _)) ⟨w.heap.size + 1, 0, none⟩ 1 1 [.int .i64 p.u, .int .i64 p.v, .int .i64 p.c] rfl rfl (newE _ _ _ _ (by simp)) (oneE _) (by omega) (by unfold maxLen; omega) (by omega) (by simp; omega) (w.heap.size + 1 + 1) (by simp) ?_; intro gs cap' w2 own2 hg2 hat hlt2; have k0 := hg2.cell (a := ⟨g, 0, none⟩) (cu_drew (cu_alloc (cu_alloc hc0))) (fun e => ha e.symm); have k1 := hg2.cell (a := ⟨g, 1, none⟩) (cu_drew (cu_alloc (cu_alloc hc1))) (fun e => ha e.symm); have k2 := hg2.frozen_far ⟨g, 1, none⟩ (by simp; omega) (fun e => ha e.symm); rw [fu_drew (fu_alloc (fu_alloc hf1))] at k2))
  all_goals
    obtain ⟨hA, hK⟩ := hH'.out.grew own2 hg2 hat
    have hgb : (Value.slice a0 n c0).ownBlock = some gs ∨ w.heap.size ≤ gs := by rcases hat with e | e; exact .inl e; right; omega
    go_wp2_with fail
    generalize (w2.setCell ⟨g, 1, none⟩ (.slice (some ⟨gs, 0, none⟩) (n + 1) cap')) = W at hA hK ⊢
    replace hA := hide hA
    replace hK := hide hK
    have hgs := hA.out.own.at_base
    clear own2 hg2 hat hlt2 k0 k1 k2 hown hblk hH' hi hz0 hz1 hz2 ha
    go_loopw [4] (fun i wr => ∃ (k : Nat) (f' : Nat → Ed), k < n + 1 ∧ i = .int .i64 k ∧ Hid (HeapT wr base g (.func (.func 36) #[] #[]) (.slice (some ⟨gs, 0, none⟩) (n + 1) cap') (n + 1) f') ∧ Hid (siftUp plLt f' k = siftUp plLt (upz f n p) n) ∧ Hid (Keep (fun k => k = g ∨ (Value.slice a0 n c0).ownBlock = some k) w wr)) (fun i _ => (intOf i).toNat)
    case atStart => exact ⟨n, upz f n p, by omega, by go_num, hA, rfl, hK⟩
    case round =>
      obtain ⟨k, f', hk, rfl, hA, hS, hK⟩ := hrel
      by_cases h0 : k = 0
      · subst h0
        go_wp2
        go_end0
        refine ⟨rfl, gs, cap', ?_, hK.out, hgb⟩
        rw [← hS.out, siftUp_top]
        exact hA.out
      · obtain ⟨j, hj⟩ : ∃ j, j = (k - 1) / 2 := ⟨_, rfl⟩
        have hjk : j < k := by omega
        have hq : ((k : Int) - 1) / 2 = (j : Int) := by omega
        have hk0 : (0 : Int) < (k : Int) := by omega
        obtain ⟨ca, cb, cx⟩ := hA.out.cells k hk
        obtain ⟨da, db, dx⟩ := hA.out.cells j (by omega)
        have c0 := hA.out.c0
        have c1 := hA.out.c1
        have hglt := hA.out.lt
        have hgs' := hA.out.own.at_base
        have ff := hA.out.frees
        replace hj := hide hj
        have key := hide (show ∀ w', Below wr.heap.size wr w' → (Below wr.heap.size wr w' ∧ w'.cell? ⟨g, 0, none⟩ = some (.func (.func 36) #[] #[]) ∧ w'.cell? ⟨g, 1, none⟩ = some (.slice (some ⟨gs, 0, none⟩) (n + 1) cap') ∧ w'.cell? ⟨gs, k * 3, none⟩ = some (.int .i64 (f' k).u) ∧ w'.cell? ⟨gs, k * 3 + 1, none⟩ = some (.int .i64 (f' k).v) ∧ w'.cell? ⟨gs, k * 3 + 2, none⟩ = some (.int .i64 (f' k).c) ∧ w'.cell? ⟨gs, j * 3, none⟩ = some (.int .i64 (f' j).u) ∧ w'.cell? ⟨gs, j * 3 + 1, none⟩ = some (.int .i64 (f' j).v) ∧ w'.cell? ⟨gs, j * 3 + 2, none⟩ = some (.int .i64 (f' j).c)) from
          fun w' hb => ⟨hb, cu_below hb c0 hglt, cu_below hb c1 hglt, cu_below hb ca hgs'.2, cu_below hb cb hgs'.2, cu_below hb cx hgs'.2, cu_below hb da hgs'.2, cu_below hb db hgs'.2, cu_below hb dx hgs'.2⟩)
        go_wp2
        simp only [hq]
        clear hq
        have ik : (0 : Int) ≤ (k : Int) ∧ (k : Int) < (n : Int) + 1 := by omega
        have ij : (0 : Int) ≤ (j : Int) ∧ (j : Int) < (n : Int) + 1 := by omega
        have ik2 : (k : Int) < ((n + 1 : Nat) : Int) := by omega
        have ij2 : (j : Int) < ((n + 1 : Nat) : Int) := by omega
        have hsv := (‹_ ∧ _› : base ≤ gs ∧ gs < W.heap.size)
        clear hgs
        have hC0 := hide (lessT_any (f' k) (f' j))
        obtain ⟨b, hb⟩ : ∃ b, b = plLt (f' k) (f' j) := ⟨_, rfl⟩
        rw [← hb] at hC0
        replace hb := hide hb
        cases b
        all_goals
          have hC := hide hC0.out
          clear hC0
          go_region_held3 (fun w' => Below wr.heap.size wr w' ∧ w'.cell? ⟨g, 0, none⟩ = some (.func (.func 36) #[] #[]) ∧ w'.cell? ⟨g, 1, none⟩ = some (.slice (some ⟨gs, 0, none⟩) (n + 1) cap') ∧ w'.cell? ⟨gs, k * 3, none⟩ = some (.int .i64 (f' k).u) ∧ w'.cell? ⟨gs, k * 3 + 1, none⟩ = some (.int .i64 (f' k).v) ∧ w'.cell? ⟨gs, k * 3 + 2, none⟩ = some (.int .i64 (f' k).c) ∧ w'.cell? ⟨gs, j * 3, none⟩ = some (.int .i64 (f' j).u) ∧ w'.cell? ⟨gs, j * 3 + 1, none⟩ = some (.int .i64 (f' j).v) ∧ w'.cell? ⟨gs, j * 3 + 2, none⟩ = some (.int .i64 (f' j).c))
            (first | exact key.out _ (below_drew _) | exact key.out _ (by assumption))
            (first | (go_at_call 36; refine (hC.out _).mono ?_; rintro e w4 ⟨rfl, hb5⟩; have hb6 := below_step (‹Below wr.heap.size wr _ ∧ _› : _ ∧ _).1 hb5))
          all_goals
            have hb7 := (‹Below wr.heap.size wr w4 ∧ _› : _ ∧ _).1
            have hA4 := hide (hA.out.stays hb7)
            have hK4 := hide (hK.out.trans (Keep.new hb7))
            have hz4 := hb7.size
            obtain ⟨ca4, cb4, cx4⟩ := hA4.out.cells k hk
            obtain ⟨da4, db4, dx4⟩ := hA4.out.cells j (by omega)
            have c04 := hA4.out.c0
            have c14 := hA4.out.c1
            have ff4 := hA4.out.frees
            clear ca cb cx da db dx c0 c1 ff key hC hA hK hb5 hb6
            first
              | (go_wp2
                 go_end0
                 refine ⟨rfl, gs, cap', ?_, hK4.out, hgb⟩
                 rw [← hS.out, siftUp_stop (by omega) (by rw [← hj.out]; exact hb.out.symm)]
                 exact hA4.out)
              | (go_wp2
                 have ffk := ff4 (k * 3)
                 have ffk1 := ff4 (k * 3 + 1)
                 have ffk2 := ff4 (k * 3 + 2)
                 have ffj := ff4 (j * 3)
                 have ffj1 := ff4 (j * 3 + 1)
                 have ffj2 := ff4 (j * 3 + 2)
                 clear ff4
                 go_region
                 go_wp2
                 have hsw := hide (hA4.out.swap hk (show j < n + 1 by omega))
                 have hgo := siftUp_go (lt := plLt) (f := f') (i := k) (by omega) (by rw [← hj.out]; exact hb.out.symm)
                 rw [← hj.out] at hgo
                 replace hgo := hide hgo
                 have hsp : (fun k => k = g ∨ (Value.slice a0 n c0).ownBlock = some k) gs ∨ w.heap.size ≤ gs := hgb.imp .inr id
                 go_roundw
                 case rel =>
                   refine ⟨j, swf f' k j, by omega, by go_num, hide ?_, hide ?_, hide ?_⟩
                   · first | exact hsw.out.drew | exact hsw.out.drewN _
                   · rw [← hS.out]; exact hgo.out.symm
                   · first | exact ((((((hK4.out.setCell hsp _).setCell hsp _).setCell hsp _).setCell hsp _).setCell hsp _).setCell hsp _).drew | exact ((((((hK4.out.setCell hsp _).setCell hsp _).setCell hsp _).setCell hsp _).setCell hsp _).setCell hsp _).drewN _
                 case measure => simp [intOf]; omega)
end Go.Proofs.Ytccailcjclbhlaa

/-! heap.Pop over places. Conditions: at least one, bounds on the length. -/
namespace Go.Proofs.Ytccailcjclbhlaa
open Go.RowKit
set_option linter.unusedSimpArgs false
set_option linter.unusedVariables false
/-- the last put first -/
theorem HeapT.lastFirst {w : World} {base g n gs c : Nat} {lf : Value} {f : Nat → Ed} (h : HeapT w base g lf (.slice (some ⟨gs, 0, none⟩) (n + 1) c) (n + 1) f) :
    HeapT ((((w.setCell ⟨gs, 0, none⟩ (.int .i64 (f n).u)).setCell ⟨gs, 1, none⟩ (.int .i64 (f n).v)).setCell ⟨gs, 2, none⟩ (.int .i64 (f n).c)).setCell ⟨g, 1, none⟩ (.slice (some ⟨gs, 0, none⟩) n c)) base g lf (.slice (some ⟨gs, 0, none⟩) n c) n (upz f 0 (f n)) := by
  have hne : gs ≠ g := fun e => h.ap (by rw [e]; rfl)
  have h1 := h.own.putT 0 (by rw [rw_len]; omega) (f n)
  rw [rw_set, rw_snoc] at h1
  have h2 := h1.shrink lenE
  have hng : ¬ (g = gs) := fun e => hne e.symm
  have kp := hide ((((Keep.refl (fun k => k = gs) w).setCell (p := ⟨gs, 0, none⟩) (.inl rfl) (.int .i64 (f n).u)).setCell (p := ⟨gs, 1, none⟩) (.inl rfl) (.int .i64 (f n).v)).setCell (p := ⟨gs, 2, none⟩) (.inl rfl) (.int .i64 (f n).c))
  have h3 : Own encE 3 92 (((w.setCell ⟨gs, 0, none⟩ (.int .i64 (f n).u)).setCell ⟨gs, 1, none⟩ (.int .i64 (f n).v)).setCell ⟨gs, 2, none⟩ (.int .i64 (f n).c)) base (.slice (some ⟨gs, 0, none⟩) n c) (RW n (upz f 0 (f n))) := by
    simpa using h2
  replace h3 := hide h3
  replace kp := kp.out
  refine ⟨h.bg, ?_, ?_, ?_, ?_, h3.out.elsewhere (by simp [Value.ownBlock]; exact hne) _, by simp [Value.ownBlock]; exact hne⟩
  · have := Nat.lt_of_lt_of_le h.lt kp.size; simpa using this
  · exact cu_set_off (kp.cu h.c0 hng) (by omega)
  · exact World.cell?_setCell_same _ _ _ (kp.cu h.c1 hng)
  · exact fu_set ((kp.frozen (p := ⟨g, 1, none⟩) h.lt hng).trans h.f1)
/-- what Pop hands back and keeps -/
def PoppedT (w : World) (base g gs c : Nat) (lf : Value) (n : Nat) (f : Nat → Ed) (p : Ed) (e : Ending) (w' : World) : Prop :=
  e = .returned (.agg #[.int .i64 p.u, .int .i64 p.v, .int .i64 p.c]) ∧ HeapT w' base g lf (.slice (some ⟨gs, 0, none⟩) n c) n f ∧ Keep (fun k => k = g ∨ k = gs) w w'
/-- what holds while Pop sifts down -/
structure PopT (w : World) (base g gs c : Nat) (lf : Value) (n : Nat) (f : Nat → Ed) (p : Ed) (wr : World) : Prop where
  at' : HeapT wr base g lf (.slice (some ⟨gs, 0, none⟩) n c) n f
  keep : Keep (fun k => k = g ∨ k = gs) w wr
  oa : wr.cell? ⟨w.heap.size + 1, 0, none⟩ = some (.int .i64 p.u)
  ob : wr.cell? ⟨w.heap.size + 1, 1, none⟩ = some (.int .i64 p.v)
  ox : wr.cell? ⟨w.heap.size + 1, 2, none⟩ = some (.int .i64 p.c)
  ra : wr.cell? ⟨w.heap.size, 0, none⟩ = some (.int .i64 0)
  rb : wr.cell? ⟨w.heap.size, 1, none⟩ = some (.int .i64 0)
  rx : wr.cell? ⟨w.heap.size, 2, none⟩ = some (.int .i64 0)
  fa : wr.frozen? ⟨w.heap.size, 0, none⟩ = false
  fb : wr.frozen? ⟨w.heap.size, 1, none⟩ = false
  fx : wr.frozen? ⟨w.heap.size, 2, none⟩ = false
  old : gs < w.heap.size
theorem PopT.lt {w : World} {base g gs c n : Nat} {lf : Value} {f : Nat → Ed} {p : Ed} {wr : World} (h : PopT w base g gs c lf n f p wr) : w.heap.size + 1 < wr.heap.size := cell_lt h.oa
theorem PopT.stays {w : World} {base g gs c n : Nat} {lf : Value} {f : Nat → Ed} {p : Ed} {wr w' : World} (h : PopT w base g gs c lf n f p wr) (k : Below wr.heap.size wr w') : PopT w base g gs c lf n f p w' :=
  have hl := h.lt
  ⟨h.at'.stays k, h.keep.trans (Keep.new k), cu_below k h.oa hl, cu_below k h.ob hl, cu_below k h.ox hl, cu_below k h.ra (by simp; omega), cu_below k h.rb (by simp; omega), cu_below k h.rx (by simp; omega), fu_below k h.fa (by simp; omega), fu_below k h.fb (by simp; omega), fu_below k h.fx (by simp; omega), h.old⟩
theorem PopT.drew {w : World} {base g gs c n : Nat} {lf : Value} {f : Nat → Ed} {p : Ed} {wr : World} (h : PopT w base g gs c lf n f p wr) : PopT w base g gs c lf n f p wr.drew := h.stays (below_drew _)
theorem PopT.drewN {w : World} {base g gs c n : Nat} {lf : Value} {f : Nat → Ed} {p : Ed} {wr : World} (h : PopT w base g gs c lf n f p wr) (m : Nat) : PopT w base g gs c lf n f p (wr.drewN m) := by
  induction m with
  | zero => exact h
  | succ m ih => exact ih.drew
theorem PopT.swap {w : World} {base g gs c n : Nat} {lf : Value} {f : Nat → Ed} {p : Ed} {wr : World} (h : PopT w base g gs c lf n f p wr) {i k : Nat} (hi : i < n) (hk : k < n) :
    PopT w base g gs c lf n (swf f i k) p ((((((wr.setCell ⟨gs, i * 3, none⟩ (.int .i64 (f k).u)).setCell ⟨gs, i * 3 + 1, none⟩ (.int .i64 (f k).v)).setCell ⟨gs, i * 3 + 2, none⟩ (.int .i64 (f k).c)).setCell ⟨gs, k * 3, none⟩ (.int .i64 (f i).u)).setCell ⟨gs, k * 3 + 1, none⟩ (.int .i64 (f i).v)).setCell ⟨gs, k * 3 + 2, none⟩ (.int .i64 (f i).c)) := by
  have ho := h.old
  have hs : ∀ {b o : Nat} {v u : Value} {wx : World} {q : Nat}, w.heap.size ≤ b → wx.cell? ⟨b, o, none⟩ = some v → (wx.setCell ⟨gs, q, none⟩ u).cell? ⟨b, o, none⟩ = some v := fun hb hc => cu_set hc (by simp; omega)
  have h6 : ∀ {b o : Nat} {v u1 u2 u3 u4 u5 u6 : Value} {wx : World} {q1 q2 q3 q4 q5 q6 : Nat}, w.heap.size ≤ b → wx.cell? ⟨b, o, none⟩ = some v → ((((((wx.setCell ⟨gs, q1, none⟩ u1).setCell ⟨gs, q2, none⟩ u2).setCell ⟨gs, q3, none⟩ u3).setCell ⟨gs, q4, none⟩ u4).setCell ⟨gs, q5, none⟩ u5).setCell ⟨gs, q6, none⟩ u6).cell? ⟨b, o, none⟩ = some v := fun hb hc => hs hb (hs hb (hs hb (hs hb (hs hb (hs hb hc)))))
  have hn : (fun k => k = g ∨ k = gs) gs ∨ w.heap.size ≤ gs := .inl (.inr rfl)
  exact ⟨h.at'.swap hi hk, (((((h.keep.setCell (p := ⟨gs, i * 3, none⟩) hn _).setCell (p := ⟨gs, i * 3 + 1, none⟩) hn _).setCell (p := ⟨gs, i * 3 + 2, none⟩) hn _).setCell (p := ⟨gs, k * 3, none⟩) hn _).setCell (p := ⟨gs, k * 3 + 1, none⟩) hn _).setCell (p := ⟨gs, k * 3 + 2, none⟩) hn _,
    h6 (by omega) h.oa, h6 (by omega) h.ob, h6 (by omega) h.ox, h6 (by omega) h.ra, h6 (by omega) h.rb, h6 (by omega) h.rx,
    fu_set (fu_set (fu_set (fu_set (fu_set (fu_set h.fa))))), fu_set (fu_set (fu_set (fu_set (fu_set (fu_set h.fb))))), fu_set (fu_set (fu_set (fu_set (fu_set (fu_set h.fx))))), ho⟩
theorem PopT.start {w : World} {base g gs c n : Nat} {lf : Value} {f : Nat → Ed} (h : HeapT w base g lf (.slice (some ⟨gs, 0, none⟩) (n + 1) c) (n + 1) f) (p : Ed) {t1 t2 : TypeId} :
    PopT w base g gs c lf n (upz f 0 (f n)) p ((((((w.setCell ⟨gs, 0, none⟩ (.int .i64 (f n).u)).setCell ⟨gs, 1, none⟩ (.int .i64 (f n).v)).setCell ⟨gs, 2, none⟩ (.int .i64 (f n).c)).setCell ⟨g, 1, none⟩ (.slice (some ⟨gs, 0, none⟩) n c)).alloc (.cells #[.int .i64 0, .int .i64 0, .int .i64 0] t1)).alloc (.cells #[.int .i64 p.u, .int .i64 p.v, .int .i64 p.c] t2)).drew := by
  have hg := h.lt
  have hgs := h.own.at_base
  have h2 := (h.lastFirst.alloc (.cells #[.int .i64 0, .int .i64 0, .int .i64 0] t1)).alloc (.cells #[.int .i64 p.u, .int .i64 p.v, .int .i64 p.c] t2)
  have hk : Keep (fun k => k = g ∨ k = gs) w ((((w.setCell ⟨gs, 0, none⟩ (.int .i64 (f n).u)).setCell ⟨gs, 1, none⟩ (.int .i64 (f n).v)).setCell ⟨gs, 2, none⟩ (.int .i64 (f n).c)).setCell ⟨g, 1, none⟩ (.slice (some ⟨gs, 0, none⟩) n c)) :=
    ((((Keep.refl _ w).setCell (p := ⟨gs, 0, none⟩) (.inl (.inr rfl)) _).setCell (p := ⟨gs, 1, none⟩) (.inl (.inr rfl)) _).setCell (p := ⟨gs, 2, none⟩) (.inl (.inr rfl)) _).setCell (p := ⟨g, 1, none⟩) (.inl (.inl rfl)) _
  have hz : ((((w.setCell ⟨gs, 0, none⟩ (.int .i64 (f n).u)).setCell ⟨gs, 1, none⟩ (.int .i64 (f n).v)).setCell ⟨gs, 2, none⟩ (.int .i64 (f n).c)).setCell ⟨g, 1, none⟩ (.slice (some ⟨gs, 0, none⟩) n c)).heap.size = w.heap.size := by simp
  generalize ((((w.setCell ⟨gs, 0, none⟩ (.int .i64 (f n).u)).setCell ⟨gs, 1, none⟩ (.int .i64 (f n).v)).setCell ⟨gs, 2, none⟩ (.int .i64 (f n).c)).setCell ⟨g, 1, none⟩ (.slice (some ⟨gs, 0, none⟩) n c)) = W at h2 hk hz ⊢
  refine ⟨h2.drew, ?_, ?_, ?_, ?_, ?_, ?_, ?_, ?_, ?_, ?_, hgs.2⟩
  · exact ((hk.alloc _).alloc _).drew
  all_goals rw [← hz]
  · exact cu_drew (by simp [go_sem])
  · exact cu_drew (by simp [go_sem])
  · exact cu_drew (by simp [go_sem])
  · exact cu_drew (cu_alloc (by simp [go_sem]))
  · exact cu_drew (cu_alloc (by simp [go_sem]))
  · exact cu_drew (cu_alloc (by simp [go_sem]))
  · exact fu_drew (fu_alloc (by simp [go_sem]))
  · exact fu_drew (fu_alloc (by simp [go_sem]))
  · exact fu_drew (fu_alloc (by simp [go_sem]))
/-- the result stored -/
theorem PopT.done {w : World} {base g gs c n : Nat} {lf : Value} {f : Nat → Ed} {p : Ed} {wr : World} (h : PopT w base g gs c lf n f p wr) :
    HeapT (((wr.setCell ⟨w.heap.size, 0, none⟩ (.int .i64 p.u)).setCell ⟨w.heap.size, 1, none⟩ (.int .i64 p.v)).setCell ⟨w.heap.size, 2, none⟩ (.int .i64 p.c)) base g lf (.slice (some ⟨gs, 0, none⟩) n c) n f ∧
    Keep (fun k => k = g ∨ k = gs) w (((wr.setCell ⟨w.heap.size, 0, none⟩ (.int .i64 p.u)).setCell ⟨w.heap.size, 1, none⟩ (.int .i64 p.v)).setCell ⟨w.heap.size, 2, none⟩ (.int .i64 p.c)) := by
  have ho := h.old
  have kp := (((Keep.refl (fun k => k = w.heap.size) wr).setCell (p := ⟨w.heap.size, 0, none⟩) (.inl rfl) (.int .i64 p.u)).setCell (p := ⟨w.heap.size, 1, none⟩) (.inl rfl) (.int .i64 p.v)).setCell (p := ⟨w.heap.size, 2, none⟩) (.inl rfl) (.int .i64 p.c)
  refine ⟨h.at'.keep kp ?_ (fun k hk => ?_), ((h.keep.setCell (.inr (Nat.le_refl _)) _).setCell (.inr (Nat.le_refl _)) _).setCell (.inr (Nat.le_refl _)) _⟩
  · intro e
    have h2 := h.at'.c1
    have h4 := h.rb
    rw [e] at h2
    rw [h4] at h2
    cases h2
  · simp [Value.ownBlock] at hk
    omega
set_option maxRecDepth 100000 in
set_option maxHeartbeats 4000000 in
theorem popT_any (base g n gs c0 : Nat) (f : Nat → Ed) (w : World) (hH : HeapT w base g (.func (.func 36) #[] #[]) (.slice (some ⟨gs, 0, none⟩) (n + 1) c0) (n + 1) f) (hn : n ≤ 1000000) :
    Calls Try.prog 27 #[.pointer (some ⟨g, 0, none⟩)] w (PoppedT w base g gs c0 (.func (.func 36) #[] #[]) n (siftDown plLt n (upz f 0 (f n)) 0) (f 0)) := by
  have hg := hH.lt
  have hbg := hH.bg
  have hgs := hH.own.at_base
  have hne : gs ≠ g := fun e => hH.ap (by rw [e]; rfl)
  have hne2 : g ≠ gs := fun e => hne e.symm
  have k0 := hH.c0
  have k1 := hH.c1
  have f1 := hH.f1
  obtain ⟨ca, cb, cx⟩ := hH.cells 0 (by omega)
  obtain ⟨da, db, dx⟩ := hH.cells n (by omega)
  have fa := hH.frees 0
  have fb := hH.frees (0 + 1)
  have fx := hH.frees (0 + 2)
  simp only [Nat.zero_mul] at ca cb cx
  have icap : n ≤ c0 := by
    rcases hH.own.2 with ⟨h1, _⟩ | ⟨g', cap, cur, h1, h2, h3, h4, h5, h6, h7⟩
    · cases h1
    · simp only [Value.slice.injEq] at h1
      obtain ⟨_, _, rfl⟩ := h1
      rw [rw_len] at h4
      omega
  go_enter Try.func27, Try.ntmps27
  have hH' := hide hH
  clear hH
  have in0 : (0 : Int) ≤ (n : Int) ∧ (n : Int) < (n : Int) + 1 := by omega
  have hI := hide (PopT.start hH'.out (f 0) (t1 := 92) (t2 := 92))
  go_wp2
  go_region
  go_wp2_with fail
  generalize ((((((w.setCell ⟨gs, 0, none⟩ (.int .i64 (f n).u)).setCell ⟨gs, 1, none⟩ (.int .i64 (f n).v)).setCell ⟨gs, 2, none⟩ (.int .i64 (f n).c)).setCell ⟨g, 1, none⟩ (.slice (some ⟨gs, 0, none⟩) n c0)).alloc (.cells #[.int .i64 0, .int .i64 0, .int .i64 0] 92)).alloc (.cells #[.int .i64 (f 0).u, .int .i64 (f 0).v, .int .i64 (f 0).c] 92)).drew = W1 at hI ⊢
  clear k0 k1 f1 da db dx fa fb fx ca cb cx hH' in0 icap
  go_loopw [5] (fun i wr => ∃ (k : Nat) (f' : Nat → Ed), (k < n ∨ k = 0) ∧ i = .int .i64 k ∧ Hid (PopT w base g gs c0 (.func (.func 36) #[] #[]) n f' (f 0) wr) ∧ Hid (siftDown plLt n f' k = siftDown plLt n (upz f 0 (f n)) 0)) (fun i _ => n - (intOf i).toNat)
  case atStart => exact ⟨0, _, by omega, rfl, hI, rfl⟩
  case round =>
    obtain ⟨i, f', hk, rfl, hI, hS⟩ := hrel
    have hi6 : i ≤ 1000000 := by omega
    by_cases hlt : 2 * i + 1 < n
    · obtain ⟨m, hm⟩ : ∃ m, m = 2 * i + 1 := ⟨_, rfl⟩
      have hq := hide (show 2 * (i : Int) + 1 = (m : Int) by omega)
      have hm' := hide hm
      have hmn : m < n := by omega
      have hmn2 : (m : Int) < (n : Int) := by omega
      have hkd := hide (kid_is (lt := plLt) n f' i hlt)
      obtain ⟨ma, mb, mx⟩ := hI.out.at'.cells m hmn
      have k0 := hI.out.at'.c0
      have k1 := hI.out.at'.c1
      have hgl := hI.out.at'.lt
      have hgsl := hI.out.at'.own.at_base.2
      by_cases hlt2 : m + 1 < n
      · obtain ⟨na, nb, nx⟩ := hI.out.at'.cells (m + 1) hlt2
        have im1 : IntKind.i64.wrap ((m : Int) + 1) = (m : Int) + 1 := IntWalk.i64_in _ (by omega)
        have im2 : (0 : Int) ≤ (m : Int) + 1 ∧ (m : Int) + 1 < (n : Int) := by omega
        have im3 : ((m : Int) + 1).toNat = m + 1 := by omega
        have im4 : decide ((m : Int) + 1 < (n : Int)) = true := by simp; omega
        have hC0 := hide (lessT_any (f' (m + 1)) (f' m))
        obtain ⟨b, hb⟩ : ∃ b, b = plLt (f' (m + 1)) (f' m) := ⟨_, rfl⟩
        rw [← hb] at hC0
        replace hb := hide hb
        have key := hide (show ∀ w', Below wr.heap.size wr w' → (Below wr.heap.size wr w' ∧ w'.cell? ⟨g, 0, none⟩ = some (.func (.func 36) #[] #[]) ∧ w'.cell? ⟨g, 1, none⟩ = some (.slice (some ⟨gs, 0, none⟩) n c0) ∧ w'.cell? ⟨gs, m * 3, none⟩ = some (.int .i64 (f' m).u) ∧ w'.cell? ⟨gs, m * 3 + 1, none⟩ = some (.int .i64 (f' m).v) ∧ w'.cell? ⟨gs, m * 3 + 2, none⟩ = some (.int .i64 (f' m).c) ∧ w'.cell? ⟨gs, (m + 1) * 3, none⟩ = some (.int .i64 (f' (m + 1)).u) ∧ w'.cell? ⟨gs, (m + 1) * 3 + 1, none⟩ = some (.int .i64 (f' (m + 1)).v) ∧ w'.cell? ⟨gs, (m + 1) * 3 + 2, none⟩ = some (.int .i64 (f' (m + 1)).c)) from
          fun w' hb => ⟨hb, cu_below hb k0 hgl, cu_below hb k1 hgl, cu_below hb ma hgsl, cu_below hb mb hgsl, cu_below hb mx hgsl, cu_below hb na hgsl, cu_below hb nb hgsl, cu_below hb nx hgsl⟩)
        replace im1 := hide im1
        replace im3 := hide im3
        clear hm
        go_wp2
        replace hq := hq.out
        simp only [hq]
        clear hq
        replace im1 := im1.out
        replace im3 := im3.out
        go_region_held3 (fun w' => Below wr.heap.size wr w' ∧ w'.cell? ⟨g, 0, none⟩ = some (.func (.func 36) #[] #[]) ∧ w'.cell? ⟨g, 1, none⟩ = some (.slice (some ⟨gs, 0, none⟩) n c0) ∧ w'.cell? ⟨gs, m * 3, none⟩ = some (.int .i64 (f' m).u) ∧ w'.cell? ⟨gs, m * 3 + 1, none⟩ = some (.int .i64 (f' m).v) ∧ w'.cell? ⟨gs, m * 3 + 2, none⟩ = some (.int .i64 (f' m).c) ∧ w'.cell? ⟨gs, (m + 1) * 3, none⟩ = some (.int .i64 (f' (m + 1)).u) ∧ w'.cell? ⟨gs, (m + 1) * 3 + 1, none⟩ = some (.int .i64 (f' (m + 1)).v) ∧ w'.cell? ⟨gs, (m + 1) * 3 + 2, none⟩ = some (.int .i64 (f' (m + 1)).c))
          (first | exact key.out _ (below_drew _) | exact key.out _ (by assumption))
          (first | (go_at_call 36; refine (hC0.out _).mono ?_; rintro e w4 ⟨rfl, hb5⟩; have hb6 := below_step (‹Below wr.heap.size wr _ ∧ _› : _ ∧ _).1 hb5))
        have hI4 := hide (hI.out.stays (‹Below wr.heap.size wr w4 ∧ _› : _ ∧ _).1)
        obtain ⟨wq, rfl⟩ : ∃ wq : World, wq = w4 := ⟨_, rfl⟩
        clear key hC0 hb5 hb6 ma mb mx na nb nx k0 k1 hgl hgsl im1 im3 im4
        cases b
        · have hkid := hide (show m = kid plLt n f' i by unfold kid; rw [← hm'.out, if_neg (by rw [← hb.out]; simp)])
          obtain ⟨k, rfl⟩ : ∃ k, k = m := ⟨_, rfl⟩
          have hkn := hmn
          have hik : i < k := by have := hm'.out; omega
          clear im2
          go_wp2
          obtain ⟨ka, kb, kx⟩ := hI4.out.at'.cells k hkn
          obtain ⟨ia, ib, ix⟩ := hI4.out.at'.cells i (by omega)
          have k0 := hI4.out.at'.c0
          have k1 := hI4.out.at'.c1
          have hgl := hI4.out.at'.lt
          have hgsl := hI4.out.at'.own.at_base.2
          have ik : (0 : Int) ≤ (k : Int) ∧ (k : Int) < (n : Int) := by omega
          have ii : (0 : Int) ≤ (i : Int) ∧ (i : Int) < (n : Int) := by omega
          have hC0 := hide (lessT_any (f' k) (f' i))
          obtain ⟨b2, hb2⟩ : ∃ b, b = plLt (f' k) (f' i) := ⟨_, rfl⟩
          rw [← hb2] at hC0
          replace hb2 := hide hb2
          have key := hide (show ∀ w', Below wq.heap.size wq w' → (Below wq.heap.size wq w' ∧ w'.cell? ⟨g, 0, none⟩ = some (.func (.func 36) #[] #[]) ∧ w'.cell? ⟨g, 1, none⟩ = some (.slice (some ⟨gs, 0, none⟩) n c0) ∧ w'.cell? ⟨gs, k * 3, none⟩ = some (.int .i64 (f' k).u) ∧ w'.cell? ⟨gs, k * 3 + 1, none⟩ = some (.int .i64 (f' k).v) ∧ w'.cell? ⟨gs, k * 3 + 2, none⟩ = some (.int .i64 (f' k).c) ∧ w'.cell? ⟨gs, i * 3, none⟩ = some (.int .i64 (f' i).u) ∧ w'.cell? ⟨gs, i * 3 + 1, none⟩ = some (.int .i64 (f' i).v) ∧ w'.cell? ⟨gs, i * 3 + 2, none⟩ = some (.int .i64 (f' i).c)) from
            fun w' hb => ⟨hb, cu_below hb k0 hgl, cu_below hb k1 hgl, cu_below hb ka hgsl, cu_below hb kb hgsl, cu_below hb kx hgsl, cu_below hb ia hgsl, cu_below hb ib hgsl, cu_below hb ix hgsl⟩)
          go_region_held3 (fun w' => Below wq.heap.size wq w' ∧ w'.cell? ⟨g, 0, none⟩ = some (.func (.func 36) #[] #[]) ∧ w'.cell? ⟨g, 1, none⟩ = some (.slice (some ⟨gs, 0, none⟩) n c0) ∧ w'.cell? ⟨gs, k * 3, none⟩ = some (.int .i64 (f' k).u) ∧ w'.cell? ⟨gs, k * 3 + 1, none⟩ = some (.int .i64 (f' k).v) ∧ w'.cell? ⟨gs, k * 3 + 2, none⟩ = some (.int .i64 (f' k).c) ∧ w'.cell? ⟨gs, i * 3, none⟩ = some (.int .i64 (f' i).u) ∧ w'.cell? ⟨gs, i * 3 + 1, none⟩ = some (.int .i64 (f' i).v) ∧ w'.cell? ⟨gs, i * 3 + 2, none⟩ = some (.int .i64 (f' i).c))
            (first | exact key.out _ (below_drew _) | exact key.out _ (by assumption))
            (first | (go_at_call 36; refine (hC0.out _).mono ?_; rintro e w5 ⟨rfl, hb5⟩; have hb6 := below_step (‹Below wq.heap.size wq _ ∧ _› : _ ∧ _).1 hb5))
          have hI5 := hide (hI4.out.stays (‹Below wq.heap.size wq w5 ∧ _› : _ ∧ _).1)
          clear key hC0 hb5 hb6 ka kb kx ia ib ix k0 k1 hI4 hgl hgsl
          cases b2
          · have hoa := hI5.out.oa
            have hob := hI5.out.ob
            have hox := hI5.out.ox
            have hra := hI5.out.ra
            have hrb := hI5.out.rb
            have hrx := hI5.out.rx
            have hfa := hI5.out.fa
            have hfb := hI5.out.fb
            have hfx := hI5.out.fx
            have hz := hI5.out.lt
            have hD := hide hI5.out.done
            go_wp2
            refine bodyPost_ret (v := .agg #[.int .i64 (f 0).u, .int .i64 (f 0).v, .int .i64 (f 0).c]) (by simp [results, Try.results27, go_sem, hra, hrb, hrx, hz]) rfl ⟨rfl, ?_, hD.out.2⟩
            rw [← hS.out, siftDown_stop hlt (by rw [← hkid.out]; exact hb2.out.symm)]
            exact hD.out.1
          · obtain ⟨ka, kb, kx⟩ := hI5.out.at'.cells k hkn
            obtain ⟨ia, ib, ix⟩ := hI5.out.at'.cells i (by omega)
            have k0 := hI5.out.at'.c0
            have k1 := hI5.out.at'.c1
            have hgl := hI5.out.at'.lt
            have hgsl := hI5.out.at'.own.at_base.2
            have ffk := hI5.out.at'.frees (k * 3)
            have ffk1 := hI5.out.at'.frees (k * 3 + 1)
            have ffk2 := hI5.out.at'.frees (k * 3 + 2)
            have ffi := hI5.out.at'.frees (i * 3)
            have ffi1 := hI5.out.at'.frees (i * 3 + 1)
            have ffi2 := hI5.out.at'.frees (i * 3 + 2)
            go_wp2
            go_region
            go_wp2
            have hsw := hide (hI5.out.swap (show i < n by omega) hkn)
            have hgo := siftDown_go (lt := plLt) (n := n) (f := f') (i := i) hlt (by rw [← hkid.out]; exact hb2.out.symm)
            rw [← hkid.out] at hgo
            replace hgo := hide hgo
            go_roundw
            case rel =>
              refine ⟨k, swf f' i k, by omega, by go_num, hide ?_, hide ?_⟩
              · first | exact hsw.out.drew | exact hsw.out.drewN _
              · rw [← hS.out]; exact hgo.out.symm
            case measure => simp [intOf]; omega
        · obtain ⟨k, hk1⟩ : ∃ k, k = m + 1 := ⟨_, rfl⟩
          have hkid := hide (show k = kid plLt n f' i by unfold kid; rw [← hm'.out, if_pos ⟨hlt2, by rw [← hb.out]⟩, hk1])
          have hkn : k < n := by omega
          have hik : i < k := by have := hm'.out; omega
          have hq2 := hide (show (m : Int) + 1 = (k : Int) by omega)
          replace hk1 := hide hk1
          go_wp2
          simp only [hq2.out]
          obtain ⟨ka, kb, kx⟩ := hI4.out.at'.cells k hkn
          obtain ⟨ia, ib, ix⟩ := hI4.out.at'.cells i (by omega)
          have k0 := hI4.out.at'.c0
          have k1 := hI4.out.at'.c1
          have hgl := hI4.out.at'.lt
          have hgsl := hI4.out.at'.own.at_base.2
          have ik : (0 : Int) ≤ (k : Int) ∧ (k : Int) < (n : Int) := by omega
          have ii : (0 : Int) ≤ (i : Int) ∧ (i : Int) < (n : Int) := by omega
          have hC0 := hide (lessT_any (f' k) (f' i))
          obtain ⟨b2, hb2⟩ : ∃ b, b = plLt (f' k) (f' i) := ⟨_, rfl⟩
          rw [← hb2] at hC0
          replace hb2 := hide hb2
          have key := hide (show ∀ w', Below wq.heap.size wq w' → (Below wq.heap.size wq w' ∧ w'.cell? ⟨g, 0, none⟩ = some (.func (.func 36) #[] #[]) ∧ w'.cell? ⟨g, 1, none⟩ = some (.slice (some ⟨gs, 0, none⟩) n c0) ∧ w'.cell? ⟨gs, k * 3, none⟩ = some (.int .i64 (f' k).u) ∧ w'.cell? ⟨gs, k * 3 + 1, none⟩ = some (.int .i64 (f' k).v) ∧ w'.cell? ⟨gs, k * 3 + 2, none⟩ = some (.int .i64 (f' k).c) ∧ w'.cell? ⟨gs, i * 3, none⟩ = some (.int .i64 (f' i).u) ∧ w'.cell? ⟨gs, i * 3 + 1, none⟩ = some (.int .i64 (f' i).v) ∧ w'.cell? ⟨gs, i * 3 + 2, none⟩ = some (.int .i64 (f' i).c)) from
            fun w' hb => ⟨hb, cu_below hb k0 hgl, cu_below hb k1 hgl, cu_below hb ka hgsl, cu_below hb kb hgsl, cu_below hb kx hgsl, cu_below hb ia hgsl, cu_below hb ib hgsl, cu_below hb ix hgsl⟩)
          go_region_held3 (fun w' => Below wq.heap.size wq w' ∧ w'.cell? ⟨g, 0, none⟩ = some (.func (.func 36) #[] #[]) ∧ w'.cell? ⟨g, 1, none⟩ = some (.slice (some ⟨gs, 0, none⟩) n c0) ∧ w'.cell? ⟨gs, k * 3, none⟩ = some (.int .i64 (f' k).u) ∧ w'.cell? ⟨gs, k * 3 + 1, none⟩ = some (.int .i64 (f' k).v) ∧ w'.cell? ⟨gs, k * 3 + 2, none⟩ = some (.int .i64 (f' k).c) ∧ w'.cell? ⟨gs, i * 3, none⟩ = some (.int .i64 (f' i).u) ∧ w'.cell? ⟨gs, i * 3 + 1, none⟩ = some (.int .i64 (f' i).v) ∧ w'.cell? ⟨gs, i * 3 + 2, none⟩ = some (.int .i64 (f' i).c))
            (first | exact key.out _ (below_drew _) | exact key.out _ (by assumption))
            (first | (go_at_call 36; refine (hC0.out _).mono ?_; rintro e w5 ⟨rfl, hb5⟩; have hb6 := below_step (‹Below wq.heap.size wq _ ∧ _› : _ ∧ _).1 hb5))
          have hI5 := hide (hI4.out.stays (‹Below wq.heap.size wq w5 ∧ _› : _ ∧ _).1)
          clear key hC0 hb5 hb6 ka kb kx ia ib ix k0 k1 hI4 hgl hgsl
          cases b2
          · have hoa := hI5.out.oa
            have hob := hI5.out.ob
            have hox := hI5.out.ox
            have hra := hI5.out.ra
            have hrb := hI5.out.rb
            have hrx := hI5.out.rx
            have hfa := hI5.out.fa
            have hfb := hI5.out.fb
            have hfx := hI5.out.fx
            have hz := hI5.out.lt
            have hD := hide hI5.out.done
            go_wp2
            refine bodyPost_ret (v := .agg #[.int .i64 (f 0).u, .int .i64 (f 0).v, .int .i64 (f 0).c]) (by simp [results, Try.results27, go_sem, hra, hrb, hrx, hz]) rfl ⟨rfl, ?_, hD.out.2⟩
            rw [← hS.out, siftDown_stop hlt (by rw [← hkid.out]; exact hb2.out.symm)]
            exact hD.out.1
          · obtain ⟨ka, kb, kx⟩ := hI5.out.at'.cells k hkn
            obtain ⟨ia, ib, ix⟩ := hI5.out.at'.cells i (by omega)
            have k0 := hI5.out.at'.c0
            have k1 := hI5.out.at'.c1
            have hgl := hI5.out.at'.lt
            have hgsl := hI5.out.at'.own.at_base.2
            have ffk := hI5.out.at'.frees (k * 3)
            have ffk1 := hI5.out.at'.frees (k * 3 + 1)
            have ffk2 := hI5.out.at'.frees (k * 3 + 2)
            have ffi := hI5.out.at'.frees (i * 3)
            have ffi1 := hI5.out.at'.frees (i * 3 + 1)
            have ffi2 := hI5.out.at'.frees (i * 3 + 2)
            go_wp2
            go_region
            go_wp2
            have hsw := hide (hI5.out.swap (show i < n by omega) hkn)
            have hgo := siftDown_go (lt := plLt) (n := n) (f := f') (i := i) hlt (by rw [← hkid.out]; exact hb2.out.symm)
            rw [← hkid.out] at hgo
            replace hgo := hide hgo
            go_roundw
            case rel =>
              refine ⟨k, swf f' i k, by omega, by go_num, hide ?_, hide ?_⟩
              · first | exact hsw.out.drew | exact hsw.out.drewN _
              · rw [← hS.out]; exact hgo.out.symm
            case measure => simp [intOf]; omega
      · have hkid := hide (show m = kid plLt n f' i by unfold kid; rw [← hm'.out, if_neg (by omega)])
        obtain ⟨k, rfl⟩ : ∃ k, k = m := ⟨_, rfl⟩
        have hkn := hmn
        have hik : i < k := by have := hm'.out; omega
        have im1 := hide (show IntKind.i64.wrap ((k : Int) + 1) = (k : Int) + 1 from IntWalk.i64_in _ (by omega))
        have im4 := hide (show decide ((k : Int) + 1 < (n : Int)) = false by simp; omega)
        clear hm
        go_wp2
        replace hq := hq.out
        simp only [hq]
        clear hq
        replace im1 := im1.out
        replace im4 := im4.out
        go_quiet (fail)
        clear im1 im4 ma mb mx k0 k1 hgl hgsl
        have hI4 := hide (hI.out.drewN nq)
        generalize wr.drewN nq = wq at hI4 ⊢
        go_wp2
        obtain ⟨ka, kb, kx⟩ := hI4.out.at'.cells k hkn
        obtain ⟨ia, ib, ix⟩ := hI4.out.at'.cells i (by omega)
        have k0 := hI4.out.at'.c0
        have k1 := hI4.out.at'.c1
        have hgl := hI4.out.at'.lt
        have hgsl := hI4.out.at'.own.at_base.2
        have ik : (0 : Int) ≤ (k : Int) ∧ (k : Int) < (n : Int) := by omega
        have ii : (0 : Int) ≤ (i : Int) ∧ (i : Int) < (n : Int) := by omega
        have hC0 := hide (lessT_any (f' k) (f' i))
        obtain ⟨b2, hb2⟩ : ∃ b, b = plLt (f' k) (f' i) := ⟨_, rfl⟩
        rw [← hb2] at hC0
        replace hb2 := hide hb2
        have key := hide (show ∀ w', Below wq.heap.size wq w' → (Below wq.heap.size wq w' ∧ w'.cell? ⟨g, 0, none⟩ = some (.func (.func 36) #[] #[]) ∧ w'.cell? ⟨g, 1, none⟩ = some (.slice (some ⟨gs, 0, none⟩) n c0) ∧ w'.cell? ⟨gs, k * 3, none⟩ = some (.int .i64 (f' k).u) ∧ w'.cell? ⟨gs, k * 3 + 1, none⟩ = some (.int .i64 (f' k).v) ∧ w'.cell? ⟨gs, k * 3 + 2, none⟩ = some (.int .i64 (f' k).c) ∧ w'.cell? ⟨gs, i * 3, none⟩ = some (.int .i64 (f' i).u) ∧ w'.cell? ⟨gs, i * 3 + 1, none⟩ = some (.int .i64 (f' i).v) ∧ w'.cell? ⟨gs, i * 3 + 2, none⟩ = some (.int .i64 (f' i).c)) from
          fun w' hb => ⟨hb, cu_below hb k0 hgl, cu_below hb k1 hgl, cu_below hb ka hgsl, cu_below hb kb hgsl, cu_below hb kx hgsl, cu_below hb ia hgsl, cu_below hb ib hgsl, cu_below hb ix hgsl⟩)
        go_region_held3 (fun w' => Below wq.heap.size wq w' ∧ w'.cell? ⟨g, 0, none⟩ = some (.func (.func 36) #[] #[]) ∧ w'.cell? ⟨g, 1, none⟩ = some (.slice (some ⟨gs, 0, none⟩) n c0) ∧ w'.cell? ⟨gs, k * 3, none⟩ = some (.int .i64 (f' k).u) ∧ w'.cell? ⟨gs, k * 3 + 1, none⟩ = some (.int .i64 (f' k).v) ∧ w'.cell? ⟨gs, k * 3 + 2, none⟩ = some (.int .i64 (f' k).c) ∧ w'.cell? ⟨gs, i * 3, none⟩ = some (.int .i64 (f' i).u) ∧ w'.cell? ⟨gs, i * 3 + 1, none⟩ = some (.int .i64 (f' i).v) ∧ w'.cell? ⟨gs, i * 3 + 2, none⟩ = some (.int .i64 (f' i).c))
          (first | exact key.out _ (below_drew _) | exact key.out _ (by assumption))
          (first | (go_at_call 36; refine (hC0.out _).mono ?_; rintro e w5 ⟨rfl, hb5⟩; have hb6 := below_step (‹Below wq.heap.size wq _ ∧ _› : _ ∧ _).1 hb5))
        have hI5 := hide (hI4.out.stays (‹Below wq.heap.size wq w5 ∧ _› : _ ∧ _).1)
        clear key hC0 hb5 hb6 ka kb kx ia ib ix k0 k1 hI4 hgl hgsl
        cases b2
        · have hoa := hI5.out.oa
          have hob := hI5.out.ob
          have hox := hI5.out.ox
          have hra := hI5.out.ra
          have hrb := hI5.out.rb
          have hrx := hI5.out.rx
          have hfa := hI5.out.fa
          have hfb := hI5.out.fb
          have hfx := hI5.out.fx
          have hz := hI5.out.lt
          have hD := hide hI5.out.done
          go_wp2
          refine bodyPost_ret (v := .agg #[.int .i64 (f 0).u, .int .i64 (f 0).v, .int .i64 (f 0).c]) (by simp [results, Try.results27, go_sem, hra, hrb, hrx, hz]) rfl ⟨rfl, ?_, hD.out.2⟩
          rw [← hS.out, siftDown_stop hlt (by rw [← hkid.out]; exact hb2.out.symm)]
          exact hD.out.1
        · obtain ⟨ka, kb, kx⟩ := hI5.out.at'.cells k hkn
          obtain ⟨ia, ib, ix⟩ := hI5.out.at'.cells i (by omega)
          have k0 := hI5.out.at'.c0
          have k1 := hI5.out.at'.c1
          have hgl := hI5.out.at'.lt
          have hgsl := hI5.out.at'.own.at_base.2
          have ffk := hI5.out.at'.frees (k * 3)
          have ffk1 := hI5.out.at'.frees (k * 3 + 1)
          have ffk2 := hI5.out.at'.frees (k * 3 + 2)
          have ffi := hI5.out.at'.frees (i * 3)
          have ffi1 := hI5.out.at'.frees (i * 3 + 1)
          have ffi2 := hI5.out.at'.frees (i * 3 + 2)
          go_wp2
          go_region
          go_wp2
          have hsw := hide (hI5.out.swap (show i < n by omega) hkn)
          have hgo := siftDown_go (lt := plLt) (n := n) (f := f') (i := i) hlt (by rw [← hkid.out]; exact hb2.out.symm)
          rw [← hkid.out] at hgo
          replace hgo := hide hgo
          go_roundw
          case rel =>
            refine ⟨k, swf f' i k, by omega, by go_num, hide ?_, hide ?_⟩
            · first | exact hsw.out.drew | exact hsw.out.drewN _
            · rw [← hS.out]; exact hgo.out.symm
          case measure => simp [intOf]; omega
    · have hoa := hI.out.oa
      have hob := hI.out.ob
      have hox := hI.out.ox
      have hra := hI.out.ra
      have hrb := hI.out.rb
      have hrx := hI.out.rx
      have hfa := hI.out.fa
      have hfb := hI.out.fb
      have hfx := hI.out.fx
      have hz := hI.out.lt
      have hD := hide hI.out.done
      go_wp2
      refine bodyPost_ret (v := .agg #[.int .i64 (f 0).u, .int .i64 (f 0).v, .int .i64 (f 0).c]) (by simp [results, Try.results27, go_sem, hra, hrb, hrx, hz]) rfl ⟨rfl, ?_, hD.out.2⟩
      rw [← hS.out, siftDown_end hlt]
      exact hD.out.1
end Go.Proofs.Ytccailcjclbhlaa
/-! Several texts in one: -/
/-! A search with keys: what it does, whoever does it; what its heap holds. No program here. -/
namespace Go.Proofs.Ytccailcjclbhlaa
set_option linter.unusedSimpArgs false
set_option linter.unusedVariables false
/-- costs so far, where each was come to from, the places looked from -/
structure SR where
  cost : Nat → Int
  pred : Nat → Int
  ord : List Nat
/-- a place that waits, with its key -/
def plOf (key : Int → Int → Int) (h : Nat → Int) (cost : Nat → Int) (v : Nat) : Ed := ⟨key (cost v) (h v), h v, (v : Int)⟩
def Waits (n : Nat) (s : SR) (v : Nat) : Prop := v < n ∧ s.cost v < FAR ∧ v ∉ s.ord
/-- one edge looked at from v -/
def sedge (h : Nat → Int) (v : Nat) (s : SR) (e : NE) : SR := if e.u = v ∧ h e.v ≠ FAR ∧ e.v ∉ s.ord ∧ s.cost v + e.c < s.cost e.v then { s with cost := upz s.cost e.v (s.cost v + e.c), pred := upz s.pred e.v (v : Int) } else s
def look1 (s : SR) (v : Nat) : SR := { s with ord := s.ord ++ [v] }
def expand (E : List NE) (h : Nat → Int) (v : Nat) (s : SR) : SR := E.foldl (sedge h v) (look1 s v)
/-- the next: before all that wait -/
def IsNext (key : Int → Int → Int) (h : Nat → Int) (n : Nat) (s : SR) (v : Nat) : Prop := Waits n s v ∧ ∀ u, Waits n s u → plLt (plOf key h s.cost u) (plOf key h s.cost v) = false
/-- what comes of it -/
inductive SRun (key : Int → Int → Int) (E : List NE) (h : Nat → Int) (n to : Nat) : SR → Option SR → Prop
  | none (s : SR) (hw : ∀ v, ¬ Waits n s v) : SRun key E h n to s none
  | hit (s : SR) (hn : IsNext key h n s to) : SRun key E h n to s (some (look1 s to))
  | step (s : SR) (v : Nat) (o : Option SR) (hn : IsNext key h n s v) (hv : v ≠ to) (hr : SRun key E h n to (expand E h v s) o) : SRun key E h n to s o
theorem plLt_tot {a b : Ed} (h1 : plLt a b = false) (h2 : plLt b a = false) : a = b := by
  simp only [plLt, decide_eq_false_iff_not] at h1 h2
  cases a; cases b
  simp only [Ed.mk.injEq] at *
  omega
/-- the costs so far: none yet, or no more than as many edges as places looked from -/
structure SOk (n from' : Nat) (h : Nat → Int) (s : SR) : Prop where
  nodup : s.ord.Nodup
  ordLt : ∀ v ∈ s.ord, v < n ∧ s.cost v < FAR
  cb : ∀ v, s.cost v = FAR ∨ (0 ≤ s.cost v ∧ s.cost v ≤ 10000 * (s.ord.length : Int))
  hf : ∀ v, s.cost v < FAR → h v ≠ FAR
theorem nodup_shortS : ∀ (n : Nat) (l : List Nat), l.Nodup → (∀ x ∈ l, x < n) → l.length ≤ n
  | 0, l, _, h => by
    cases l with
    | nil => simp
    | cons x r => have := h x (List.mem_cons_self ..); omega
  | n + 1, l, hd, h => by
    have h1 := nodup_shortS n (l.erase n) (hd.erase n) (fun x hx => by
      have h2 := (List.Nodup.mem_erase_iff hd).1 hx
      have := h x h2.2
      have := h2.1
      omega)
    rw [List.length_erase] at h1
    split at h1 <;> omega
/-- while v's edges are looked at: v was looked from last, its own cost is one edge less -/
structure SMid (n from' : Nat) (h : Nat → Int) (v : Nat) (s : SR) : Prop where
  ok : SOk n from' h s
  inO : v ∈ s.ord
  cv : 0 ≤ s.cost v ∧ s.cost v + 10000 ≤ 10000 * (s.ord.length : Int)
/-- what the heap holds -/
structure HHas (key : Int → Int → Int) (h : Nat → Int) (n : Nat) (s : SR) (X : List Ed) : Prop where
  ent : ∀ p ∈ X, ∃ v : Nat, v < n ∧ p.c = (v : Int) ∧ p.v = h v ∧ s.cost v < FAR ∧ key (s.cost v) (h v) ≤ p.u
  has : ∀ v, Waits n s v → plOf key h s.cost v ∈ X
end Go.Proofs.Ytccailcjclbhlaa

/-! The way up from a place by where each was come to from. No program here. -/
namespace Go.Proofs.Ytccailcjclbhlaa
set_option linter.unusedSimpArgs false
set_option linter.unusedVariables false
/-- places as numbers -/
def LP (l : List Nat) : List Int := l.map fun (v : Nat) => (v : Int)
theorem lp_len (l : List Nat) : (LP l).length = l.length := by simp [LP]
inductive Chain (pred : Nat → Int) : Nat → List Nat → Prop
  | top (v : Nat) (h : pred v < 0) : Chain pred v [v]
  | step (v u : Nat) (l : List Nat) (h : pred v = (u : Int)) (hc : Chain pred u l) : Chain pred v (v :: l)
theorem chain_head {pred : Nat → Int} {v : Nat} {l : List Nat} (h : Chain pred v l) : ∃ t, l = v :: t := by
  cases h with
  | top _ h => exact ⟨[], rfl⟩
  | step _ u l h hc => exact ⟨l, rfl⟩
theorem chain_one {pred : Nat → Int} {v : Nat} {l m : List Nat} (h : Chain pred v l) (k : Chain pred v m) : l = m := by
  induction h generalizing m with
  | top v h =>
    cases k with
    | top _ _ => rfl
    | step _ u l h2 hc => omega
  | step v u l h hc ih =>
    cases k with
    | top _ h2 => omega
    | step _ u2 l2 h2 hc2 =>
      obtain rfl : u = u2 := by omega
      rw [ih hc2]
theorem chain_at {pred : Nat → Int} {v : Nat} {l : List Nat} (h : Chain pred v l) : ∀ x ∈ l, ∃ m, Chain pred x m ∧ m.length ≤ l.length ∧ (x ≠ v → m.length < l.length) := by
  induction h with
  | top v h =>
    intro x hx
    simp at hx
    subst hx
    exact ⟨[x], .top x h, Nat.le_refl _, fun h => absurd rfl h⟩
  | step v u l h hc ih =>
    intro x hx
    rcases List.mem_cons.1 hx with rfl | hx
    · exact ⟨x :: l, .step x u l h hc, Nat.le_refl _, fun h => absurd rfl h⟩
    · obtain ⟨m, h1, h2, _⟩ := ih x hx
      exact ⟨m, h1, by simp; omega, fun _ => by simp; omega⟩
theorem chain_nodup {pred : Nat → Int} {v : Nat} {l : List Nat} (h : Chain pred v l) : l.Nodup := by
  induction h with
  | top v h => simp
  | step v u l h hc ih =>
    refine List.nodup_cons.2 ⟨fun hv => ?_, ih⟩
    obtain ⟨m, h1, h2, _⟩ := chain_at hc v hv
    have h3 := chain_one h1 (.step v u l h hc)
    rw [h3] at h2
    simp at h2
    omega
end Go.Proofs.Ytccailcjclbhlaa
