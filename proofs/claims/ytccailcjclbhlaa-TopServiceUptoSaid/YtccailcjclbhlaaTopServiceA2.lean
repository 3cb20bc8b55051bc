/-
  A part of the proof of ServePlays: HeapB HeapPush HeapPop ListI
-/
import Derived.Test.YtccailcjclbhlaaTopServiceA1
import Derived.BigQuiet
import Derived.Deep.QuietTactic
import Derived.WalkSpells
import Derived.WalkLawsBesides
import Derived.Deep.AppendLies
import Derived.LoopTactic
import Derived.BigRegion
import Derived.StillTailTactics
import Derived.Deep.RegionLaw
import Derived.Deep.RegionHeld3
import Derived.Lib.SliceRun
/-! Several texts in one: -/
/-! A heap in a list: one more sifted up, the first taken and the last sifted down. No program here. -/
namespace Go.Proofs.Ytccailcjclbhlaa
set_option linter.unusedVariables false

section
variable {α : Type}
/-- two exchanged -/
def swf (f : Nat → α) (i j : Nat) : Nat → α := upz (upz f i (f j)) j (f i)
theorem swf_left (f : Nat → α) {i j : Nat} : swf f i j i = f j := by
  unfold swf upz
  by_cases h : i = j
  · subst h; simp
  · simp [h]
theorem swf_right (f : Nat → α) (i j : Nat) : swf f i j j = f i := by simp [swf, upz]
theorem swf_other (f : Nat → α) {i j k : Nat} (h1 : k ≠ i) (h2 : k ≠ j) : swf f i j k = f k := by simp [swf, upz, h1, h2]
theorem swf_perm (f : Nat → α) {n i j : Nat} (hi : i < n) (hj : j < n) : (RW n (swf f i j)).Perm (RW n f) := by
  have h1 : i < (RW n f).length := by rw [rw_len]; exact hi
  have h2 : j < (RW n f).length := by rw [rw_len]; exact hj
  have h := List.set_set_perm h1 h2
  rw [rw_get, rw_get, rw_set, rw_set] at h
  exact h
/-- an order: what is not less -/
structure Ord (lt : α → α → Bool) : Prop where
  irr : ∀ a, lt a a = false
  asym : ∀ a b, lt a b = true → lt b a = false
  trans : ∀ a b c, lt b a = false → lt c b = false → lt c a = false
variable {lt : α → α → Bool}
/-- none is less than the one above it -/
def HeapOK (lt : α → α → Bool) (n : Nat) (f : Nat → α) : Prop := ∀ i, 0 < i → i < n → lt (f i) (f ((i - 1) / 2)) = false
theorem heap_top (ho : Ord lt) {n : Nat} {f : Nat → α} (h : HeapOK lt n f) (i : Nat) (hi : i < n) : lt (f i) (f 0) = false := by
  induction i using Nat.strongRecOn with
  | ind i ih =>
    by_cases h0 : i = 0
    · subst h0; exact ho.irr _
    · exact ho.trans _ _ _ (ih ((i - 1) / 2) (by omega) (by omega)) (h i (by omega) hi)
def siftUp (lt : α → α → Bool) (f : Nat → α) (i : Nat) : Nat → α := if h : 0 < i then if lt (f i) (f ((i - 1) / 2)) = true then siftUp lt (swf f i ((i - 1) / 2)) ((i - 1) / 2) else f else f
termination_by i
decreasing_by omega
theorem siftUp_go {f : Nat → α} {i : Nat} (h : 0 < i) (hl : lt (f i) (f ((i - 1) / 2)) = true) : siftUp lt f i = siftUp lt (swf f i ((i - 1) / 2)) ((i - 1) / 2) := by rw [siftUp, dif_pos h, if_pos hl]
theorem siftUp_stop {f : Nat → α} {i : Nat} (h : 0 < i) (hl : lt (f i) (f ((i - 1) / 2)) = false) : siftUp lt f i = f := by rw [siftUp, dif_pos h, if_neg (by simp [hl])]
theorem siftUp_top {f : Nat → α} : siftUp lt f 0 = f := by rw [siftUp, dif_neg (by omega)]
/-- all in order but i and the one above it; those below i are not less than the one above i -/
structure UpInv (lt : α → α → Bool) (n : Nat) (f : Nat → α) (i : Nat) : Prop where
  rest : ∀ j, 0 < j → j < n → j ≠ i → lt (f j) (f ((j - 1) / 2)) = false
  kids : ∀ j, 0 < j → j < n → (j - 1) / 2 = i → 0 < i → lt (f j) (f ((i - 1) / 2)) = false
theorem siftUp_ok (ho : Ord lt) {n : Nat} : ∀ (i : Nat) (f : Nat → α), i < n → UpInv lt n f i → HeapOK lt n (siftUp lt f i) ∧ (RW n (siftUp lt f i)).Perm (RW n f) := by
  intro i
  induction i using Nat.strongRecOn with
  | ind i ih =>
    intro f hi h
    by_cases h0 : i = 0
    · subst h0
      rw [siftUp_top]
      exact ⟨fun j hj hjn => h.rest j hj hjn (by omega), List.Perm.refl _⟩
    · have hp : (i - 1) / 2 < i := by omega
      cases hl : lt (f i) (f ((i - 1) / 2)) with
      | false =>
        rw [siftUp_stop (by omega) hl]
        refine ⟨fun j hj hjn => ?_, List.Perm.refl _⟩
        by_cases e : j = i
        · subst e; exact hl
        · exact h.rest j hj hjn e
      | true =>
        rw [siftUp_go (by omega) hl]
        have hne : (i - 1) / 2 ≠ i := by omega
        have inv : UpInv lt n (swf f i ((i - 1) / 2)) ((i - 1) / 2) := by
          constructor
          · intro j hj hjn hjk
            by_cases e : j = i
            · subst e
              rw [swf_left, swf_right]
              exact ho.asym _ _ hl
            · rw [swf_other _ e hjk]
              by_cases e1 : (j - 1) / 2 = i
              · rw [e1, swf_left]
                exact h.kids j hj hjn e1 (by omega)
              · by_cases e2 : (j - 1) / 2 = (i - 1) / 2
                · rw [e2, swf_right]
                  have h1 := h.rest j hj hjn e
                  rw [e2] at h1
                  exact ho.trans _ _ _ (ho.asym _ _ hl) h1
                · rw [swf_other _ e1 e2]
                  exact h.rest j hj hjn e
          · intro j hj hjn hjp hk0
            have hpp : ((i - 1) / 2 - 1) / 2 ≠ i ∧ ((i - 1) / 2 - 1) / 2 ≠ (i - 1) / 2 := by omega
            rw [swf_other f hpp.1 hpp.2]
            have hup := h.rest ((i - 1) / 2) hk0 (by omega) hne
            by_cases e : j = i
            · subst e
              rw [swf_left]
              exact hup
            · have e2 : j ≠ (i - 1) / 2 := by omega
              rw [swf_other _ e e2]
              have h1 := h.rest j hj hjn e
              rw [hjp] at h1
              exact ho.trans _ _ _ hup h1
        obtain ⟨r1, r2⟩ := ih _ hp _ (by omega) inv
        exact ⟨r1, r2.trans (swf_perm f hi (by omega))⟩
/-- one more at the end, sifted up -/
theorem push_ok (ho : Ord lt) {n : Nat} {f : Nat → α} (h : HeapOK lt n f) (x : α) : HeapOK lt (n + 1) (siftUp lt (upz f n x) n) ∧ (RW (n + 1) (siftUp lt (upz f n x) n)).Perm (RW n f ++ [x]) := by
  have inv : UpInv lt (n + 1) (upz f n x) n := by
    constructor
    · intro j hj hjn hjk
      rw [upz_other _ _ hjk, upz_other _ _ (show (j - 1) / 2 ≠ n by omega)]
      exact h j hj (by omega)
    · intro j hj hjn hjp _
      omega
  obtain ⟨r1, r2⟩ := siftUp_ok ho n _ (by omega) inv
  refine ⟨r1, r2.trans ?_⟩
  have e : RW (n + 1) (upz f n x) = RW n f ++ [x] := by
    unfold RW
    rw [List.range_succ, List.map_append]
    congr 1
    · apply List.map_congr_left
      intro v hv
      exact upz_other _ _ (by have := List.mem_range.1 hv; omega)
    · simp [upz]
  rw [e]
/-- the lesser of the two below -/
def kid (lt : α → α → Bool) (n : Nat) (f : Nat → α) (i : Nat) : Nat := if 2 * i + 1 + 1 < n ∧ lt (f (2 * i + 1 + 1)) (f (2 * i + 1)) = true then 2 * i + 1 + 1 else 2 * i + 1
theorem kid_is (n : Nat) (f : Nat → α) (i : Nat) (h : 2 * i + 1 < n) : kid lt n f i < n ∧ (kid lt n f i - 1) / 2 = i ∧ i < kid lt n f i := by
  unfold kid
  split <;> omega
theorem kid_least (ho : Ord lt) (n : Nat) (f : Nat → α) (i j : Nat) (hj : 0 < j) (hjn : j < n) (hp : (j - 1) / 2 = i) : lt (f j) (f (kid lt n f i)) = false := by
  unfold kid
  have hc : j = 2 * i + 1 ∨ j = 2 * i + 1 + 1 := by omega
  split
  · rename_i h
    rcases hc with rfl | rfl
    · exact ho.asym _ _ h.2
    · exact ho.irr _
  · rename_i h
    rcases hc with rfl | rfl
    · exact ho.irr _
    · cases hl : lt (f (2 * i + 1 + 1)) (f (2 * i + 1)) with
      | false => rfl
      | true => exact absurd ⟨hjn, hl⟩ h
def siftDown (lt : α → α → Bool) (n : Nat) (f : Nat → α) (i : Nat) : Nat → α := if h : 2 * i + 1 < n then if lt (f (kid lt n f i)) (f i) = true then siftDown lt n (swf f i (kid lt n f i)) (kid lt n f i) else f else f
termination_by n - i
decreasing_by have := kid_is (lt := lt) n f i h; omega
theorem siftDown_go {n : Nat} {f : Nat → α} {i : Nat} (h : 2 * i + 1 < n) (hl : lt (f (kid lt n f i)) (f i) = true) : siftDown lt n f i = siftDown lt n (swf f i (kid lt n f i)) (kid lt n f i) := by rw [siftDown, dif_pos h, if_pos hl]
theorem siftDown_stop {n : Nat} {f : Nat → α} {i : Nat} (h : 2 * i + 1 < n) (hl : lt (f (kid lt n f i)) (f i) = false) : siftDown lt n f i = f := by rw [siftDown, dif_pos h, if_neg (by simp [hl])]
theorem siftDown_end {n : Nat} {f : Nat → α} {i : Nat} (h : ¬ 2 * i + 1 < n) : siftDown lt n f i = f := by rw [siftDown, dif_neg h]
structure DownInv (lt : α → α → Bool) (n : Nat) (f : Nat → α) (i : Nat) : Prop where
  rest : ∀ j, 0 < j → j < n → (j - 1) / 2 ≠ i → lt (f j) (f ((j - 1) / 2)) = false
  kids : ∀ j, 0 < j → j < n → (j - 1) / 2 = i → 0 < i → lt (f j) (f ((i - 1) / 2)) = false
theorem siftDown_ok (ho : Ord lt) {n : Nat} : ∀ (d i : Nat) (f : Nat → α), n - i = d → i < n → DownInv lt n f i → HeapOK lt n (siftDown lt n f i) ∧ (RW n (siftDown lt n f i)).Perm (RW n f) := by
  intro d
  induction d using Nat.strongRecOn with
  | ind d ih =>
    intro i f hd hi h
    by_cases h0 : 2 * i + 1 < n
    · obtain ⟨k1, k2, k3⟩ := kid_is (lt := lt) n f i h0
      have kl := kid_least ho n f i
      obtain ⟨k, hk⟩ : ∃ k, k = kid lt n f i := ⟨_, rfl⟩
      rw [← hk] at k1 k2 k3 kl
      cases hl : lt (f k) (f i) with
      | false =>
        rw [siftDown_stop h0 (by rw [← hk]; exact hl)]
        refine ⟨fun j hj hjn => ?_, List.Perm.refl _⟩
        by_cases e : (j - 1) / 2 = i
        · rw [e]
          exact ho.trans _ _ _ hl (kl j hj hjn e)
        · exact h.rest j hj hjn e
      | true =>
        rw [siftDown_go h0 (by rw [← hk]; exact hl), ← hk]
        have hne : k ≠ i := by omega
        have inv : DownInv lt n (swf f i k) k := by
          constructor
          · intro j hj hjn hjp
            by_cases e : (j - 1) / 2 = i
            · rw [e, swf_left]
              by_cases e2 : j = k
              · subst e2; rw [swf_right]; exact ho.asym _ _ hl
              · rw [swf_other _ (by omega) e2]
                exact kl j hj hjn e
            · rw [swf_other _ e hjp]
              by_cases e2 : j = i
              · subst e2
                rw [swf_left]
                exact h.kids k (by omega) k1 k2 (by omega)
              · by_cases e3 : j = k
                · subst e3; exact absurd k2 e
                · rw [swf_other _ e2 e3]
                  exact h.rest j hj hjn e
          · intro j hj hjn hjp hk0
            rw [k2, swf_left]
            have e1 : j ≠ i := by omega
            have e2 : j ≠ k := by omega
            rw [swf_other _ e1 e2]
            have := h.rest j hj hjn (by omega)
            rw [hjp] at this
            exact this
        obtain ⟨r1, r2⟩ := ih (n - k) (by omega) k _ rfl k1 inv
        exact ⟨r1, r2.trans (swf_perm f hi k1)⟩
    · rw [siftDown_end h0]
      refine ⟨fun j hj hjn => ?_, List.Perm.refl _⟩
      exact h.rest j hj hjn (by omega)
/-- the first taken, the last put in its place and sifted down -/
theorem pop_ok (ho : Ord lt) {n : Nat} {f : Nat → α} (h : HeapOK lt (n + 1) f) : HeapOK lt n (siftDown lt n (upz f 0 (f n)) 0) ∧ (f 0 :: RW n (siftDown lt n (upz f 0 (f n)) 0)).Perm (RW (n + 1) f) := by
  by_cases hn : n = 0
  · subst hn
    refine ⟨fun i h1 h2 => by omega, ?_⟩
    simp [RW]
  · have inv : DownInv lt n (upz f 0 (f n)) 0 := by
      constructor
      · intro j hj hjn hjp
        rw [upz_other _ _ (show j ≠ 0 by omega), upz_other _ _ hjp]
        exact h j hj (by omega)
      · intro j hj hjn hjp h0
        omega
    obtain ⟨r1, r2⟩ := siftDown_ok ho (n - 0) 0 _ rfl (by omega) inv
    refine ⟨r1, (r2.cons _).trans ?_⟩
    have e1 : RW (n + 1) f = f 0 :: (RW n f).tail ++ [f n] := by
      have e0 : RW (n + 1) f = RW n f ++ [f n] := by unfold RW; rw [List.range_succ, List.map_append]; rfl
      have e3 : RW n f = f 0 :: (RW n f).tail := by
        obtain ⟨m, rfl⟩ : ∃ m, n = m + 1 := ⟨n - 1, by omega⟩
        simp [RW, List.range_succ_eq_map]
      rw [e0]
      exact congrArg (· ++ [f n]) e3
    have e2 : RW n (upz f 0 (f n)) = f n :: (RW n f).tail := by
      obtain ⟨m, rfl⟩ : ∃ m, n = m + 1 := ⟨n - 1, by omega⟩
      rw [← rw_set]
      simp [RW, List.range_succ_eq_map]
    rw [e1, e2]
    simp only [List.cons_append]
    exact List.Perm.cons _ (List.perm_append_singleton _ _).symm
end
end Go.Proofs.Ytccailcjclbhlaa

/-! heap.Less: the order of what waits. Condition: none. -/
namespace Go.Proofs.Ytccailcjclbhlaa
open Go.RowKit
set_option linter.unusedSimpArgs false
set_option linter.unusedVariables false

/-- by the first number, then by the second -/
def popLt (p q : P2) : Bool := decide (p.a < q.a) || (decide (p.a = q.a) && decide (p.b < q.b))
theorem popLt_ord : Ord popLt := by
  constructor
  · intro a; simp [popLt]
  · intro a b h
    simp only [popLt, Bool.or_eq_true, Bool.and_eq_true, decide_eq_true_eq, Bool.or_eq_false_iff, Bool.and_eq_false_iff, decide_eq_false_iff_not] at *
    omega
  · intro a b c h1 h2
    simp only [popLt, Bool.or_eq_true, Bool.and_eq_true, decide_eq_true_eq, Bool.or_eq_false_iff, Bool.and_eq_false_iff, decide_eq_false_iff_not] at *
    omega
set_option maxHeartbeats 2000000 in
theorem less_any (p q : P2) (w : World) :
    Calls Try.prog 41 #[.agg #[.int .i64 p.a, .int .i64 p.b], .agg #[.int .i64 q.a, .int .i64 q.b]] w fun e w' => e = .returned (.bool (popLt p q)) ∧ Below w.heap.size w w' := by
  go_enter Try.func41, Try.ntmps41
  by_cases h1 : p.a < q.a
  · have e1 : popLt p q = true := by simp [popLt, h1]
    rw [e1]
    go_wp2
    go_ret
    exact ⟨rfl, bel⟩
  · by_cases h2 : p.a = q.a
    · have e1 : popLt p q = decide (p.b < q.b) := by simp [popLt, h2]
      rw [e1]
      have h3 : (p.a < q.a) = False := by simp [h1]
      go_wp2
      go_ret
      exact ⟨rfl, bel⟩
    · have e1 : popLt p q = false := by simp [popLt, h1, h2]
      rw [e1]
      go_wp2
      go_ret
      exact ⟨rfl, bel⟩
end Go.Proofs.Ytccailcjclbhlaa

/-! A heap in memory: an object of two cells, its slice the call's own. No condition. -/
namespace Go.Proofs.Ytccailcjclbhlaa
open Go.RowKit
set_option linter.unusedSimpArgs false
set_option linter.unusedVariables false
theorem info_pop : (Try.prog.info? 111).map (fun i => (i.zero, i.size, i.bytes)) = some (some (.agg #[.int .i64 0, .int .i64 0]), 2, 16) := by kernel_rfl
theorem Own.getP {e : TypeId} {w : World} {base : Nat} {xs : List P2} {g n c : Nat} (h : Own encP 2 e w base (.slice (some ⟨g, 0, none⟩) n c) xs) (i : Nat) (hi : i < xs.length) :
    w.cell? ⟨g, i * 2, none⟩ = some (.int .i64 xs[i].a) ∧ w.cell? ⟨g, i * 2 + 1, none⟩ = some (.int .i64 xs[i].b) :=
  ⟨by simpa using h.get lenP i hi 0 _ rfl, h.get lenP i hi 1 _ rfl⟩
theorem Own.putP {e : TypeId} {w : World} {base : Nat} {xs : List P2} {g n c : Nat} (h : Own encP 2 e w base (.slice (some ⟨g, 0, none⟩) n c) xs) (i : Nat) (hi : i < xs.length) (p : P2) :
    Own encP 2 e ((w.setCell ⟨g, i * 2, none⟩ (.int .i64 p.a)).setCell ⟨g, i * 2 + 1, none⟩ (.int .i64 p.b)) base (.slice (some ⟨g, 0, none⟩) n c) (xs.set i p) := by
  have h1 := h.put lenP i hi 0 (by omega) (.int .i64 p.a) ⟨p.a, xs[i].b⟩ rfl
  have h2 := h1.put lenP i (by simpa using hi) 1 (by omega) (.int .i64 p.b) p (by simp [encP])
  rw [List.set_set] at h2
  simpa using h2
theorem rw_push {α : Type} (n : Nat) (f : Nat → α) (x : α) : RW (n + 1) (upz f n x) = RW n f ++ [x] := by
  unfold RW
  rw [List.range_succ, List.map_append]
  congr 1
  · apply List.map_congr_left
    intro v hv
    exact upz_other _ _ (by have := List.mem_range.1 hv; omega)
  · simp [upz]
/-- the heap at g holds the n first of f; lf says which is less -/
structure HeapAt (w : World) (base g : Nat) (lf v : Value) (n : Nat) (f : Nat → P2) : Prop where
  bg : base ≤ g
  lt : g < w.heap.size
  c0 : w.cell? ⟨g, 0, none⟩ = some lf
  c1 : w.cell? ⟨g, 1, none⟩ = some v
  f1 : w.frozen? ⟨g, 1, none⟩ = false
  own : Own encP 2 111 w base v (RW n f)
  ap : v.ownBlock ≠ some g
theorem HeapAt.keep {S : Nat → Prop} {w w' : World} {base g n : Nat} {lf v : Value} {f : Nat → P2} (h : HeapAt w base g lf v n f) (k : Keep S w w') (hg : ¬ S g) (hv : ∀ k, v.ownBlock = some k → ¬ S k) : HeapAt w' base g lf v n f :=
  ⟨h.bg, Nat.lt_of_lt_of_le h.lt k.size, k.cu h.c0 hg, k.cu h.c1 hg, (k.frozen (p := ⟨g, 1, none⟩) h.lt hg).trans h.f1, k.own h.own hv, h.ap⟩
theorem HeapAt.stays {w w' : World} {base g n : Nat} {lf v : Value} {f : Nat → P2} (h : HeapAt w base g lf v n f) (k : Below w.heap.size w w') : HeapAt w' base g lf v n f :=
  h.keep (Keep.new (S := fun _ => False) k) (fun h => h) (fun _ _ h => h)
theorem HeapAt.drew {w : World} {base g n : Nat} {lf v : Value} {f : Nat → P2} (h : HeapAt w base g lf v n f) : HeapAt w.drew base g lf v n f := ⟨h.bg, h.lt, h.c0, h.c1, h.f1, h.own.drew, h.ap⟩
theorem HeapAt.alloc {w : World} {base g n : Nat} {lf v : Value} {f : Nat → P2} (h : HeapAt w base g lf v n f) (o : Obj) : HeapAt (w.alloc o) base g lf v n f := h.stays ((Below.refl _ _).alloc (Nat.le_refl _) o)
/-- two exchanged -/
theorem HeapAt.swap {w : World} {base g n gs m c : Nat} {lf : Value} {f : Nat → P2} (h : HeapAt w base g lf (.slice (some ⟨gs, 0, none⟩) m c) n f) {i k : Nat} (hi : i < n) (hk : k < n) :
    HeapAt ((((w.setCell ⟨gs, i * 2, none⟩ (.int .i64 (f k).a)).setCell ⟨gs, i * 2 + 1, none⟩ (.int .i64 (f k).b)).setCell ⟨gs, k * 2, none⟩ (.int .i64 (f i).a)).setCell ⟨gs, k * 2 + 1, none⟩ (.int .i64 (f i).b)) base g lf (.slice (some ⟨gs, 0, none⟩) m c) n (swf f i k) := by
  have hne : gs ≠ g := fun e => h.ap (by rw [e]; rfl)
  have h1 := h.own.putP i (by rw [rw_len]; exact hi) (f k)
  have h2 := h1.putP k (by rw [List.length_set, rw_len]; exact hk) (f i)
  rw [rw_set, rw_set] at h2
  have kp := hide ((((hide (Keep.refl (fun k => k = gs) w)).out.setCell (p := ⟨gs, i * 2, none⟩) (.inl rfl) (.int .i64 (f k).a)).setCell (p := ⟨gs, i * 2 + 1, none⟩) (.inl rfl) (.int .i64 (f k).b)).setCell (p := ⟨gs, k * 2, none⟩) (.inl rfl) (.int .i64 (f i).a) |>.setCell (p := ⟨gs, k * 2 + 1, none⟩) (.inl rfl) (.int .i64 (f i).b))
  replace kp := kp.out
  have hng : ¬ (g = gs) := fun e => hne e.symm
  exact ⟨h.bg, Nat.lt_of_lt_of_le h.lt kp.size, kp.cu h.c0 hng, kp.cu h.c1 hng, (kp.frozen (p := ⟨g, 1, none⟩) h.lt hng).trans h.f1, h2, h.ap⟩
end Go.Proofs.Ytccailcjclbhlaa
/-! heap.Push over pairs, whatever the order. Conditions: bounds on the length. -/
namespace Go.Proofs.Ytccailcjclbhlaa
open Go.RowKit
set_option linter.unusedSimpArgs false
set_option linter.unusedVariables false
/-- what Push keeps -/
def Heaped (w : World) (base g : Nat) (lf v : Value) (n : Nat) (f : Nat → P2) (w' : World) : Prop :=
  ∃ gs c, HeapAt w' base g lf (.slice (some ⟨gs, 0, none⟩) n c) n f ∧ Keep (fun k => k = g ∨ v.ownBlock = some k) w w' ∧ (v.ownBlock = some gs ∨ w.heap.size ≤ gs)
theorem HeapAt.cells {w : World} {base g gs n c : Nat} {lf : Value} {f : Nat → P2} (h : HeapAt w base g lf (.slice (some ⟨gs, 0, none⟩) n c) n f) (i : Nat) (hi : i < n) :
    w.cell? ⟨gs, i * 2, none⟩ = some (.int .i64 (f i).a) ∧ w.cell? ⟨gs, i * 2 + 1, none⟩ = some (.int .i64 (f i).b) := by
  have := h.own.getP i (by rw [rw_len]; exact hi)
  rw [rw_get] at this
  exact this
theorem HeapAt.frees {w : World} {base g gs n c : Nat} {lf : Value} {f : Nat → P2} (h : HeapAt w base g lf (.slice (some ⟨gs, 0, none⟩) n c) n f) (i : Nat) : w.frozen? ⟨gs, i, none⟩ = false := h.own.free i
/-- behind the append -/
theorem HeapAt.grew {w w2 : World} {base g n : Nat} {lf v : Value} {f : Nat → P2} {p : P2} (h : HeapAt w base g lf v n f) {E X : Obj} {gs cap' : Nat}
    (own2 : w2.ownsRow base 111 2 (.slice (some ⟨gs, 0, none⟩) (n + 1) cap') (n + 1) ((RW n f).flatMap encP ++ [.int .i64 p.a, .int .i64 p.b])) (hg2 : ((w.alloc E).alloc X).drew.grownBy w2 v.ownBlock) (hat : v.ownBlock = some gs ∨ gs = w.heap.size + 1 + 1) :
    HeapAt (w2.setCell ⟨g, 1, none⟩ (.slice (some ⟨gs, 0, none⟩) (n + 1) cap')) base g lf (.slice (some ⟨gs, 0, none⟩) (n + 1) cap') (n + 1) (upz f n p) ∧ Keep (fun k => k = g ∨ v.ownBlock = some k) w (w2.setCell ⟨g, 1, none⟩ (.slice (some ⟨gs, 0, none⟩) (n + 1) cap')) := by
  have hlt := h.lt
  have hne : gs ≠ g := by
    rintro rfl
    rcases hat with e | e
    · exact h.ap e
    · omega
  have k0 := hg2.cell (a := ⟨g, 0, none⟩) (cu_drew (cu_alloc (cu_alloc h.c0))) (fun e => h.ap e.symm)
  have k1 := hg2.cell (a := ⟨g, 1, none⟩) (cu_drew (cu_alloc (cu_alloc h.c1))) (fun e => h.ap e.symm)
  have k2 := hg2.frozen_far ⟨g, 1, none⟩ (by simp; omega) (fun e => h.ap e.symm)
  have hf : ((w.alloc E).alloc X).drew.frozen? ⟨g, 1, none⟩ = false := by
    have hb : Below w.heap.size w ((w.alloc E).alloc X).drew := up_drew (up_alloc (up_alloc (Below.refl _ _) (Nat.le_refl _)) (by simp))
    exact (hb.frozen (p := ⟨g, 1, none⟩) hlt).trans h.f1
  rw [hf] at k2
  have hsz : w.heap.size ≤ w2.heap.size := by have := hg2.size; simp at this; omega
  have own' : Own encP 2 111 w2 base (.slice (some ⟨gs, 0, none⟩) (n + 1) cap') (RW (n + 1) (upz f n p)) := by
    rw [rw_push]
    unfold Own
    rw [List.length_append, rw_len, List.flatMap_append]
    exact own2
  refine ⟨⟨h.bg, by simp; omega, ?_, ?_, fu_set k2, own'.elsewhere (by simp [Value.ownBlock]; exact hne) _, by simp [Value.ownBlock]; exact hne⟩, ?_⟩
  · exact cu_set_off k0 (by omega)
  · exact World.cell?_setCell_same _ _ _ k1
  · have hkp : Keep (fun k => k = g ∨ v.ownBlock = some k) w ((w.alloc E).alloc X).drew := (((Keep.refl _ w).alloc E).alloc X).drew
    exact (hkp.grown hg2 (fun k hk => .inl (.inr hk))).setCell (.inl (.inl rfl)) _
set_option maxRecDepth 100000 in
set_option maxHeartbeats 4000000 in
theorem push_any (base g n : Nat) (a0 : Option Addr) (c0 : Nat) (f : Nat → P2) (p : P2) (w : World) (hH : HeapAt w base g (.func (.func 41) #[] #[]) (.slice a0 n c0) n f) (hn : n ≤ 1000000) :
    Calls Try.prog 42 #[.pointer (some ⟨g, 0, none⟩), .agg #[.int .i64 p.a, .int .i64 p.b]] w fun e w' => e = .returned (.tuple #[]) ∧ Heaped w base g (.func (.func 41) #[] #[]) (.slice a0 n c0) (n + 1) (siftUp popLt (upz f n p) n) w' := by
  obtain ⟨i0, hi, hz0, hz1, hz2⟩ := info_parts info_pop
  have hg := hH.lt
  have hbg := hH.bg
  have hc0 := hH.c0
  have hc1 := hH.c1
  have hf1 := hH.f1
  have hown := hH.own
  have hap := hH.ap
  go_enter Try.func42, Try.ntmps42
  have hH' := hide hH
  have hblk := hide hown.block_lt
  unfold Own at hown
  rw [rw_len] at hown
  replace hown := hide hown
  have ha : (Value.slice a0 n c0).ownBlock ≠ some g := hap
  have hsz : base ≤ w.heap.size := by omega
  clear hap hH
  go_wp2
  go_region_law (first | (refine step_append_lies _ rfl (.tmp 10) (.tmp 12) 123 rfl base 111 i0 (.agg #[.int .i64 0, .int .i64 0]) 2 16 Try.underlying123 hi hz0 hz1 hz2 rfl (by decide) (.slice a0 n c0) n _ rfl (World.ownsRow.drew (World.ownsRow.alloc (World.ownsRow.alloc hown.out _) _)) ⟨w.heap.size + 1, 0, none⟩ 1 1 [.int .i64 p.a, .int .i64 p.b] rfl rfl (newP _ _ _ _ (by simp)) (oneP _) (by omega) (by unfold maxLen; omega) (by omega) (by simp; omega) (w.heap.size + 1 + 1) (by simp) ?_; intro gs cap' w2 own2 hg2 hat hlt2; have k0 := hg2.cell (a := ⟨g, 0, none⟩) (cu_drew (cu_alloc (cu_alloc hc0))) (fun e => ha e.symm); have k1 := hg2.cell (a := ⟨g, 1, none⟩) (cu_drew (cu_alloc (cu_alloc hc1))) (fun e => ha e.symm); have k2 := hg2.frozen_far ⟨g, 1, none⟩ (by simp; omega) (fun e => ha e.symm); rw [fu_drew (fu_alloc (fu_alloc hf1))] at k2))
  all_goals
    obtain ⟨hA, hK⟩ := hH'.out.grew own2 hg2 hat
    have hgb : (Value.slice a0 n c0).ownBlock = some gs ∨ w.heap.size ≤ gs := by rcases hat with e | e; exact .inl e; right; omega
    go_wp2_with fail
    generalize (w2.setCell ⟨g, 1, none⟩ (.slice (some ⟨gs, 0, none⟩) (n + 1) cap')) = W at hA hK ⊢
    replace hA := hide hA
    replace hK := hide hK
    have hgs := hA.out.own.at_base
    clear own2 hg2 hat hlt2 k0 k1 k2 hown hblk hH' hi hz0 hz1 hz2 ha
    go_loopw [4] (fun i wr => ∃ (k : Nat) (f' : Nat → P2), k < n + 1 ∧ i = .int .i64 k ∧ Hid (HeapAt wr base g (.func (.func 41) #[] #[]) (.slice (some ⟨gs, 0, none⟩) (n + 1) cap') (n + 1) f') ∧ Hid (siftUp popLt f' k = siftUp popLt (upz f n p) n) ∧ Hid (Keep (fun k => k = g ∨ (Value.slice a0 n c0).ownBlock = some k) w wr)) (fun i _ => (intOf i).toNat)
    case atStart => exact ⟨n, upz f n p, by omega, by go_num, hA, rfl, hK⟩
    case round =>
      obtain ⟨k, f', hk, rfl, hA, hS, hK⟩ := hrel
      by_cases h0 : k = 0
      · subst h0
        go_wp2
        go_end0
        refine ⟨rfl, gs, cap', ?_, hK.out, hgb⟩
        rw [← hS.out, siftUp_top]
        exact hA.out
      · obtain ⟨j, hj⟩ : ∃ j, j = (k - 1) / 2 := ⟨_, rfl⟩
        have hjk : j < k := by omega
        have hq : ((k : Int) - 1) / 2 = (j : Int) := by omega
        have hk0 : (0 : Int) < (k : Int) := by omega
        obtain ⟨ca, cb⟩ := hA.out.cells k hk
        obtain ⟨da, db⟩ := hA.out.cells j (by omega)
        have c0 := hA.out.c0
        have c1 := hA.out.c1
        have hglt := hA.out.lt
        have hgs' := hA.out.own.at_base
        have ff := hA.out.frees
        replace hj := hide hj
        have key := hide (show ∀ w', Below wr.heap.size wr w' → (Below wr.heap.size wr w' ∧ w'.cell? ⟨g, 0, none⟩ = some (.func (.func 41) #[] #[]) ∧ w'.cell? ⟨g, 1, none⟩ = some (.slice (some ⟨gs, 0, none⟩) (n + 1) cap') ∧ w'.cell? ⟨gs, k * 2, none⟩ = some (.int .i64 (f' k).a) ∧ w'.cell? ⟨gs, k * 2 + 1, none⟩ = some (.int .i64 (f' k).b) ∧ w'.cell? ⟨gs, j * 2, none⟩ = some (.int .i64 (f' j).a) ∧ w'.cell? ⟨gs, j * 2 + 1, none⟩ = some (.int .i64 (f' j).b)) from
          fun w' hb => ⟨hb, cu_below hb c0 hglt, cu_below hb c1 hglt, cu_below hb ca hgs'.2, cu_below hb cb hgs'.2, cu_below hb da hgs'.2, cu_below hb db hgs'.2⟩)
        go_wp2
        simp only [hq]
        clear hq
        have ik : (0 : Int) ≤ (k : Int) ∧ (k : Int) < (n : Int) + 1 := by omega
        have ij : (0 : Int) ≤ (j : Int) ∧ (j : Int) < (n : Int) + 1 := by omega
        have ik2 : (k : Int) < ((n + 1 : Nat) : Int) := by omega
        have ij2 : (j : Int) < ((n + 1 : Nat) : Int) := by omega
        have hsv := (‹_ ∧ _› : base ≤ gs ∧ gs < W.heap.size)
        clear hgs
        have hC0 := hide (less_any (f' k) (f' j))
        obtain ⟨b, hb⟩ : ∃ b, b = popLt (f' k) (f' j) := ⟨_, rfl⟩
        rw [← hb] at hC0
        replace hb := hide hb
        cases b
        all_goals
          have hC := hide hC0.out
          clear hC0
          go_region_held3 (fun w' => Below wr.heap.size wr w' ∧ w'.cell? ⟨g, 0, none⟩ = some (.func (.func 41) #[] #[]) ∧ w'.cell? ⟨g, 1, none⟩ = some (.slice (some ⟨gs, 0, none⟩) (n + 1) cap') ∧ w'.cell? ⟨gs, k * 2, none⟩ = some (.int .i64 (f' k).a) ∧ w'.cell? ⟨gs, k * 2 + 1, none⟩ = some (.int .i64 (f' k).b) ∧ w'.cell? ⟨gs, j * 2, none⟩ = some (.int .i64 (f' j).a) ∧ w'.cell? ⟨gs, j * 2 + 1, none⟩ = some (.int .i64 (f' j).b))
            (first | exact key.out _ (below_drew _) | exact key.out _ (by assumption))
            (first | (go_at_call 41; refine (hC.out _).mono ?_; rintro e w4 ⟨rfl, hb5⟩; have hb6 := below_step (‹Below wr.heap.size wr _ ∧ _› : _ ∧ _).1 hb5))
          all_goals
            have hb7 := (‹Below wr.heap.size wr w4 ∧ _› : _ ∧ _).1
            have hA4 := hide (hA.out.stays hb7)
            have hK4 := hide (hK.out.trans (Keep.new hb7))
            have hz4 := hb7.size
            obtain ⟨ca4, cb4⟩ := hA4.out.cells k hk
            obtain ⟨da4, db4⟩ := hA4.out.cells j (by omega)
            have c04 := hA4.out.c0
            have c14 := hA4.out.c1
            have ff4 := hA4.out.frees
            clear ca cb da db c0 c1 ff key hC hA hK hb5 hb6
            first
              | (go_wp2
                 go_end0
                 refine ⟨rfl, gs, cap', ?_, hK4.out, hgb⟩
                 rw [← hS.out, siftUp_stop (by omega) (by rw [← hj.out]; exact hb.out.symm)]
                 exact hA4.out)
              | (go_wp2
                 have ffk := ff4 (k * 2)
                 have ffk1 := ff4 (k * 2 + 1)
                 have ffj := ff4 (j * 2)
                 have ffj1 := ff4 (j * 2 + 1)
                 clear ff4
                 go_region
                 go_wp2
                 have hsw := hide (hA4.out.swap hk (show j < n + 1 by omega))
                 have hgo := siftUp_go (lt := popLt) (f := f') (i := k) (by omega) (by rw [← hj.out]; exact hb.out.symm)
                 rw [← hj.out] at hgo
                 replace hgo := hide hgo
                 have hsp : (fun k => k = g ∨ (Value.slice a0 n c0).ownBlock = some k) gs ∨ w.heap.size ≤ gs := hgb.imp .inr id
                 go_roundw
                 case rel =>
                   refine ⟨j, swf f' k j, by omega, by go_num, hide ?_, hide ?_, hide ?_⟩
                   · first | exact hsw.out.drew | exact hsw.out.drewN _
                   · rw [← hS.out]; exact hgo.out.symm
                   · first | exact ((((hK4.out.setCell hsp _).setCell hsp _).setCell hsp _).setCell hsp _).drew | exact ((((hK4.out.setCell hsp _).setCell hsp _).setCell hsp _).setCell hsp _).drewN _
                 case measure => simp [intOf]; omega)
end Go.Proofs.Ytccailcjclbhlaa
/-! heap.Pop over pairs. Conditions: at least one, bounds on the length. -/
namespace Go.Proofs.Ytccailcjclbhlaa
open Go.RowKit
set_option linter.unusedSimpArgs false
set_option linter.unusedVariables false
theorem Own.shrink {α : Type} {enc : α → List Value} {sz : Nat} {e : TypeId} {w : World} {base : Nat} {xs : List α} {x : α} {g n c : Nat} (h : Own enc sz e w base (.slice (some ⟨g, 0, none⟩) (n + 1) c) (xs ++ [x])) (hlen : ∀ x, (enc x).length = sz) : Own enc sz e w base (.slice (some ⟨g, 0, none⟩) n c) xs := by
  have hl := h.len
  have hn : xs.length = n := by simpa using hl
  have hfl : (xs.flatMap enc).length = xs.length * sz := by
    clear h hl hn
    induction xs with
    | nil => simp
    | cons x r ih => simp only [List.flatMap_cons, List.length_append, ih, hlen, List.length_cons, Nat.succ_mul]; omega
  subst hn
  refine ⟨hfl, ?_⟩
  rcases h.2 with ⟨h1, _⟩ | ⟨g', cap, cur, h1, h2, h3, h4, h5, h6, h7⟩
  · cases h1
  · right
    simp only [Value.slice.injEq, Option.some.injEq, Addr.mk.injEq] at h1
    obtain ⟨⟨rfl, _⟩, _, rfl⟩ := h1
    refine ⟨g, c, cur, rfl, h2, h3, by simp at h4; omega, h5, h6, ?_⟩
    have e1 : cur.toList.take (xs.length * sz) = (cur.toList.take ((xs ++ [x]).length * sz)).take (xs.length * sz) := by
      rw [List.take_take]
      congr 1
      simp only [List.length_append, List.length_cons, List.length_nil, Nat.zero_add, Nat.add_mul, Nat.one_mul]
      omega
    rw [e1, h7, List.flatMap_append, List.take_append_of_le_length (by omega), List.take_of_length_le (by omega)]
theorem rw_snoc {α : Type} (n : Nat) (f : Nat → α) : RW (n + 1) f = RW n f ++ [f n] := by
  unfold RW
  rw [List.range_succ, List.map_append]
  rfl
/- 111 -/
/-- the last put first -/
theorem HeapAt.lastFirst {w : World} {base g n gs c : Nat} {lf : Value} {f : Nat → P2} (h : HeapAt w base g lf (.slice (some ⟨gs, 0, none⟩) (n + 1) c) (n + 1) f) :
    HeapAt (((w.setCell ⟨gs, 0, none⟩ (.int .i64 (f n).a)).setCell ⟨gs, 1, none⟩ (.int .i64 (f n).b)).setCell ⟨g, 1, none⟩ (.slice (some ⟨gs, 0, none⟩) n c)) base g lf (.slice (some ⟨gs, 0, none⟩) n c) n (upz f 0 (f n)) := by
  have hne : gs ≠ g := fun e => h.ap (by rw [e]; rfl)
  have h1 := h.own.putP 0 (by rw [rw_len]; omega) (f n)
  rw [rw_set, rw_snoc] at h1
  have h2 := h1.shrink lenP
  have hng : ¬ (g = gs) := fun e => hne e.symm
  have kp := hide (((Keep.refl (fun k => k = gs) w).setCell (p := ⟨gs, 0, none⟩) (.inl rfl) (.int .i64 (f n).a)).setCell (p := ⟨gs, 1, none⟩) (.inl rfl) (.int .i64 (f n).b))
  have h3 : Own encP 2 111 ((w.setCell ⟨gs, 0, none⟩ (.int .i64 (f n).a)).setCell ⟨gs, 1, none⟩ (.int .i64 (f n).b)) base (.slice (some ⟨gs, 0, none⟩) n c) (RW n (upz f 0 (f n))) := by
    simpa using h2
  replace h3 := hide h3
  replace kp := kp.out
  refine ⟨h.bg, ?_, ?_, ?_, ?_, h3.out.elsewhere (by simp [Value.ownBlock]; exact hne) _, by simp [Value.ownBlock]; exact hne⟩
  · have := Nat.lt_of_lt_of_le h.lt kp.size; simpa using this
  · exact cu_set_off (kp.cu h.c0 hng) (by omega)
  · exact World.cell?_setCell_same _ _ _ (kp.cu h.c1 hng)
  · exact fu_set ((kp.frozen (p := ⟨g, 1, none⟩) h.lt hng).trans h.f1)
/-- what Pop hands back and keeps -/
def Popped (w : World) (base g gs c : Nat) (lf : Value) (n : Nat) (f : Nat → P2) (p : P2) (e : Ending) (w' : World) : Prop :=
  e = .returned (.agg #[.int .i64 p.a, .int .i64 p.b]) ∧ HeapAt w' base g lf (.slice (some ⟨gs, 0, none⟩) n c) n f ∧ Keep (fun k => k = g ∨ k = gs) w w'
/-- what holds while Pop sifts down -/
structure PopI (w : World) (base g gs c : Nat) (lf : Value) (n : Nat) (f : Nat → P2) (p : P2) (wr : World) : Prop where
  at' : HeapAt wr base g lf (.slice (some ⟨gs, 0, none⟩) n c) n f
  keep : Keep (fun k => k = g ∨ k = gs) w wr
  oa : wr.cell? ⟨w.heap.size + 1, 0, none⟩ = some (.int .i64 p.a)
  ob : wr.cell? ⟨w.heap.size + 1, 1, none⟩ = some (.int .i64 p.b)
  ra : wr.cell? ⟨w.heap.size, 0, none⟩ = some (.int .i64 0)
  rb : wr.cell? ⟨w.heap.size, 1, none⟩ = some (.int .i64 0)
  fa : wr.frozen? ⟨w.heap.size, 0, none⟩ = false
  fb : wr.frozen? ⟨w.heap.size, 1, none⟩ = false
  old : gs < w.heap.size
theorem PopI.lt {w : World} {base g gs c n : Nat} {lf : Value} {f : Nat → P2} {p : P2} {wr : World} (h : PopI w base g gs c lf n f p wr) : w.heap.size + 1 < wr.heap.size := cell_lt h.oa
theorem PopI.stays {w : World} {base g gs c n : Nat} {lf : Value} {f : Nat → P2} {p : P2} {wr w' : World} (h : PopI w base g gs c lf n f p wr) (k : Below wr.heap.size wr w') : PopI w base g gs c lf n f p w' :=
  have hl := h.lt
  ⟨h.at'.stays k, h.keep.trans (Keep.new k), cu_below k h.oa hl, cu_below k h.ob hl, cu_below k h.ra (by simp; omega), cu_below k h.rb (by simp; omega), fu_below k h.fa (by simp; omega), fu_below k h.fb (by simp; omega), h.old⟩
theorem PopI.drew {w : World} {base g gs c n : Nat} {lf : Value} {f : Nat → P2} {p : P2} {wr : World} (h : PopI w base g gs c lf n f p wr) : PopI w base g gs c lf n f p wr.drew := h.stays (below_drew _)
theorem PopI.drewN {w : World} {base g gs c n : Nat} {lf : Value} {f : Nat → P2} {p : P2} {wr : World} (h : PopI w base g gs c lf n f p wr) (m : Nat) : PopI w base g gs c lf n f p (wr.drewN m) := by
  induction m with
  | zero => exact h
  | succ m ih => exact ih.drew
theorem PopI.swap {w : World} {base g gs c n : Nat} {lf : Value} {f : Nat → P2} {p : P2} {wr : World} (h : PopI w base g gs c lf n f p wr) {i k : Nat} (hi : i < n) (hk : k < n) :
    PopI w base g gs c lf n (swf f i k) p ((((wr.setCell ⟨gs, i * 2, none⟩ (.int .i64 (f k).a)).setCell ⟨gs, i * 2 + 1, none⟩ (.int .i64 (f k).b)).setCell ⟨gs, k * 2, none⟩ (.int .i64 (f i).a)).setCell ⟨gs, k * 2 + 1, none⟩ (.int .i64 (f i).b)) := by
  have ho := h.old
  have hs : ∀ {b o : Nat} {v u : Value} {wx : World} {q : Nat}, w.heap.size ≤ b → wx.cell? ⟨b, o, none⟩ = some v → (wx.setCell ⟨gs, q, none⟩ u).cell? ⟨b, o, none⟩ = some v := fun hb hc => cu_set hc (by simp; omega)
  have hn : (fun k => k = g ∨ k = gs) gs ∨ w.heap.size ≤ gs := .inl (.inr rfl)
  exact ⟨h.at'.swap hi hk, (((h.keep.setCell (p := ⟨gs, i * 2, none⟩) hn _).setCell (p := ⟨gs, i * 2 + 1, none⟩) hn _).setCell (p := ⟨gs, k * 2, none⟩) hn _).setCell (p := ⟨gs, k * 2 + 1, none⟩) hn _,
    hs (by omega) (hs (by omega) (hs (by omega) (hs (by omega) h.oa))), hs (by omega) (hs (by omega) (hs (by omega) (hs (by omega) h.ob))), hs (by omega) (hs (by omega) (hs (by omega) (hs (by omega) h.ra))), hs (by omega) (hs (by omega) (hs (by omega) (hs (by omega) h.rb))),
    fu_set (fu_set (fu_set (fu_set h.fa))), fu_set (fu_set (fu_set (fu_set h.fb))), ho⟩
theorem PopI.start {w : World} {base g gs c n : Nat} {lf : Value} {f : Nat → P2} (h : HeapAt w base g lf (.slice (some ⟨gs, 0, none⟩) (n + 1) c) (n + 1) f) (p : P2) {t1 t2 : TypeId} :
    PopI w base g gs c lf n (upz f 0 (f n)) p (((((w.setCell ⟨gs, 0, none⟩ (.int .i64 (f n).a)).setCell ⟨gs, 1, none⟩ (.int .i64 (f n).b)).setCell ⟨g, 1, none⟩ (.slice (some ⟨gs, 0, none⟩) n c)).alloc (.cells #[.int .i64 0, .int .i64 0] t1)).alloc (.cells #[.int .i64 p.a, .int .i64 p.b] t2)).drew := by
  have hg := h.lt
  have hgs := h.own.at_base
  have h2 := (h.lastFirst.alloc (.cells #[.int .i64 0, .int .i64 0] t1)).alloc (.cells #[.int .i64 p.a, .int .i64 p.b] t2)
  have hk : Keep (fun k => k = g ∨ k = gs) w (((w.setCell ⟨gs, 0, none⟩ (.int .i64 (f n).a)).setCell ⟨gs, 1, none⟩ (.int .i64 (f n).b)).setCell ⟨g, 1, none⟩ (.slice (some ⟨gs, 0, none⟩) n c)) :=
    (((Keep.refl _ w).setCell (p := ⟨gs, 0, none⟩) (.inl (.inr rfl)) _).setCell (p := ⟨gs, 1, none⟩) (.inl (.inr rfl)) _).setCell (p := ⟨g, 1, none⟩) (.inl (.inl rfl)) _
  have hz : (((w.setCell ⟨gs, 0, none⟩ (.int .i64 (f n).a)).setCell ⟨gs, 1, none⟩ (.int .i64 (f n).b)).setCell ⟨g, 1, none⟩ (.slice (some ⟨gs, 0, none⟩) n c)).heap.size = w.heap.size := by simp
  generalize (((w.setCell ⟨gs, 0, none⟩ (.int .i64 (f n).a)).setCell ⟨gs, 1, none⟩ (.int .i64 (f n).b)).setCell ⟨g, 1, none⟩ (.slice (some ⟨gs, 0, none⟩) n c)) = W at h2 hk hz ⊢
  refine ⟨h2.drew, ?_, ?_, ?_, ?_, ?_, ?_, ?_, hgs.2⟩
  · exact ((hk.alloc _).alloc _).drew
  all_goals rw [← hz]
  · exact cu_drew (by simp [go_sem])
  · exact cu_drew (by simp [go_sem])
  · exact cu_drew (cu_alloc (by simp [go_sem]))
  · exact cu_drew (cu_alloc (by simp [go_sem]))
  · exact fu_drew (fu_alloc (by simp [go_sem]))
  · exact fu_drew (fu_alloc (by simp [go_sem]))
/-- the result stored -/
theorem PopI.done {w : World} {base g gs c n : Nat} {lf : Value} {f : Nat → P2} {p : P2} {wr : World} (h : PopI w base g gs c lf n f p wr) :
    HeapAt ((wr.setCell ⟨w.heap.size, 0, none⟩ (.int .i64 p.a)).setCell ⟨w.heap.size, 1, none⟩ (.int .i64 p.b)) base g lf (.slice (some ⟨gs, 0, none⟩) n c) n f ∧
    Keep (fun k => k = g ∨ k = gs) w ((wr.setCell ⟨w.heap.size, 0, none⟩ (.int .i64 p.a)).setCell ⟨w.heap.size, 1, none⟩ (.int .i64 p.b)) := by
  have ho := h.old
  have kp := ((Keep.refl (fun k => k = w.heap.size) wr).setCell (p := ⟨w.heap.size, 0, none⟩) (.inl rfl) (.int .i64 p.a)).setCell (p := ⟨w.heap.size, 1, none⟩) (.inl rfl) (.int .i64 p.b)
  refine ⟨h.at'.keep kp ?_ (fun k hk => ?_), (h.keep.setCell (.inr (Nat.le_refl _)) _).setCell (.inr (Nat.le_refl _)) _⟩
  · intro e
    have h1 := h.ra
    have h2 := h.at'.c1
    have h3 := h.ob
    have h4 := h.rb
    rw [e] at h2
    rw [h4] at h2
    cases h2
  · simp [Value.ownBlock] at hk
    omega
set_option maxRecDepth 100000 in
set_option maxHeartbeats 4000000 in
theorem pop_any (base g n gs c0 : Nat) (f : Nat → P2) (w : World) (hH : HeapAt w base g (.func (.func 41) #[] #[]) (.slice (some ⟨gs, 0, none⟩) (n + 1) c0) (n + 1) f) (hn : n ≤ 1000000) :
    Calls Try.prog 44 #[.pointer (some ⟨g, 0, none⟩)] w (Popped w base g gs c0 (.func (.func 41) #[] #[]) n (siftDown popLt n (upz f 0 (f n)) 0) (f 0)) := by
  have hg := hH.lt
  have hbg := hH.bg
  have hgs := hH.own.at_base
  have hne : gs ≠ g := fun e => hH.ap (by rw [e]; rfl)
  have hne2 : g ≠ gs := fun e => hne e.symm
  have k0 := hH.c0
  have k1 := hH.c1
  have f1 := hH.f1
  obtain ⟨ca, cb⟩ := hH.cells 0 (by omega)
  obtain ⟨da, db⟩ := hH.cells n (by omega)
  have fa := hH.frees 0
  have fb := hH.frees (0 + 1)
  simp only [Nat.zero_mul] at ca cb
  have icap : n ≤ c0 := by
    rcases hH.own.2 with ⟨h1, _⟩ | ⟨g', cap, cur, h1, h2, h3, h4, h5, h6, h7⟩
    · cases h1
    · simp only [Value.slice.injEq] at h1
      obtain ⟨_, _, rfl⟩ := h1
      rw [rw_len] at h4
      omega
  go_enter Try.func44, Try.ntmps44
  have hH' := hide hH
  clear hH
  have in0 : (0 : Int) ≤ (n : Int) ∧ (n : Int) < (n : Int) + 1 := by omega
  have hI := hide (PopI.start hH'.out (f 0) (t1 := 111) (t2 := 111))
  go_wp2
  go_region
  go_wp2_with fail
  generalize (((((w.setCell ⟨gs, 0, none⟩ (.int .i64 (f n).a)).setCell ⟨gs, 1, none⟩ (.int .i64 (f n).b)).setCell ⟨g, 1, none⟩ (.slice (some ⟨gs, 0, none⟩) n c0)).alloc (.cells #[.int .i64 0, .int .i64 0] 111)).alloc (.cells #[.int .i64 (f 0).a, .int .i64 (f 0).b] 111)).drew = W1 at hI ⊢
  clear k0 k1 f1 da db fa fb ca cb hH' in0 icap
  go_loopw [5] (fun i wr => ∃ (k : Nat) (f' : Nat → P2), (k < n ∨ k = 0) ∧ i = .int .i64 k ∧ Hid (PopI w base g gs c0 (.func (.func 41) #[] #[]) n f' (f 0) wr) ∧ Hid (siftDown popLt n f' k = siftDown popLt n (upz f 0 (f n)) 0)) (fun i _ => n - (intOf i).toNat)
  case atStart => exact ⟨0, _, by omega, rfl, hI, rfl⟩
  case round =>
    obtain ⟨i, f', hk, rfl, hI, hS⟩ := hrel
    have hi6 : i ≤ 1000000 := by omega
    by_cases hlt : 2 * i + 1 < n
    · obtain ⟨m, hm⟩ : ∃ m, m = 2 * i + 1 := ⟨_, rfl⟩
      have hq := hide (show 2 * (i : Int) + 1 = (m : Int) by omega)
      have hm' := hide hm
      have hmn : m < n := by omega
      have hmn2 : (m : Int) < (n : Int) := by omega
      have hkd := hide (kid_is (lt := popLt) n f' i hlt)
      obtain ⟨ma, mb⟩ := hI.out.at'.cells m hmn
      have k0 := hI.out.at'.c0
      have k1 := hI.out.at'.c1
      have hgl := hI.out.at'.lt
      have hgsl := hI.out.at'.own.at_base.2
      by_cases hlt2 : m + 1 < n
      · obtain ⟨na, nb⟩ := hI.out.at'.cells (m + 1) hlt2
        have im1 : IntKind.i64.wrap ((m : Int) + 1) = (m : Int) + 1 := IntWalk.i64_in _ (by omega)
        have im2 : (0 : Int) ≤ (m : Int) + 1 ∧ (m : Int) + 1 < (n : Int) := by omega
        have im3 : ((m : Int) + 1).toNat = m + 1 := by omega
        have im4 : decide ((m : Int) + 1 < (n : Int)) = true := by simp; omega
        have hC0 := hide (less_any (f' (m + 1)) (f' m))
        obtain ⟨b, hb⟩ : ∃ b, b = popLt (f' (m + 1)) (f' m) := ⟨_, rfl⟩
        rw [← hb] at hC0
        replace hb := hide hb
        have key := hide (show ∀ w', Below wr.heap.size wr w' → (Below wr.heap.size wr w' ∧ w'.cell? ⟨g, 0, none⟩ = some (.func (.func 41) #[] #[]) ∧ w'.cell? ⟨g, 1, none⟩ = some (.slice (some ⟨gs, 0, none⟩) n c0) ∧ w'.cell? ⟨gs, m * 2, none⟩ = some (.int .i64 (f' m).a) ∧ w'.cell? ⟨gs, m * 2 + 1, none⟩ = some (.int .i64 (f' m).b) ∧ w'.cell? ⟨gs, (m + 1) * 2, none⟩ = some (.int .i64 (f' (m + 1)).a) ∧ w'.cell? ⟨gs, (m + 1) * 2 + 1, none⟩ = some (.int .i64 (f' (m + 1)).b)) from
          fun w' hb => ⟨hb, cu_below hb k0 hgl, cu_below hb k1 hgl, cu_below hb ma hgsl, cu_below hb mb hgsl, cu_below hb na hgsl, cu_below hb nb hgsl⟩)
        replace im1 := hide im1
        replace im3 := hide im3
        clear hm
        go_wp2
        replace hq := hq.out
        simp only [hq]
        clear hq
        replace im1 := im1.out
        replace im3 := im3.out
        go_region_held3 (fun w' => Below wr.heap.size wr w' ∧ w'.cell? ⟨g, 0, none⟩ = some (.func (.func 41) #[] #[]) ∧ w'.cell? ⟨g, 1, none⟩ = some (.slice (some ⟨gs, 0, none⟩) n c0) ∧ w'.cell? ⟨gs, m * 2, none⟩ = some (.int .i64 (f' m).a) ∧ w'.cell? ⟨gs, m * 2 + 1, none⟩ = some (.int .i64 (f' m).b) ∧ w'.cell? ⟨gs, (m + 1) * 2, none⟩ = some (.int .i64 (f' (m + 1)).a) ∧ w'.cell? ⟨gs, (m + 1) * 2 + 1, none⟩ = some (.int .i64 (f' (m + 1)).b))
          (first | exact key.out _ (below_drew _) | exact key.out _ (by assumption))
          (first | (go_at_call 41; refine (hC0.out _).mono ?_; rintro e w4 ⟨rfl, hb5⟩; have hb6 := below_step (‹Below wr.heap.size wr _ ∧ _› : _ ∧ _).1 hb5))
        have hI4 := hide (hI.out.stays (‹Below wr.heap.size wr w4 ∧ _› : _ ∧ _).1)
        obtain ⟨wq, rfl⟩ : ∃ wq : World, wq = w4 := ⟨_, rfl⟩
        clear key hC0 hb5 hb6 ma mb na nb k0 k1 hgl hgsl im1 im3 im4
        cases b
        · have hkid := hide (show m = kid popLt n f' i by unfold kid; rw [← hm'.out, if_neg (by rw [← hb.out]; simp)])
          obtain ⟨k, rfl⟩ : ∃ k, k = m := ⟨_, rfl⟩
          have hkn := hmn
          have hik : i < k := by have := hm'.out; omega
          clear im2
          go_wp2
          obtain ⟨ka, kb⟩ := hI4.out.at'.cells k hkn
          obtain ⟨ia, ib⟩ := hI4.out.at'.cells i (by omega)
          have k0 := hI4.out.at'.c0
          have k1 := hI4.out.at'.c1
          have hgl := hI4.out.at'.lt
          have hgsl := hI4.out.at'.own.at_base.2
          have ik : (0 : Int) ≤ (k : Int) ∧ (k : Int) < (n : Int) := by omega
          have ii : (0 : Int) ≤ (i : Int) ∧ (i : Int) < (n : Int) := by omega
          have hC0 := hide (less_any (f' k) (f' i))
          obtain ⟨b2, hb2⟩ : ∃ b, b = popLt (f' k) (f' i) := ⟨_, rfl⟩
          rw [← hb2] at hC0
          replace hb2 := hide hb2
          have key := hide (show ∀ w', Below wq.heap.size wq w' → (Below wq.heap.size wq w' ∧ w'.cell? ⟨g, 0, none⟩ = some (.func (.func 41) #[] #[]) ∧ w'.cell? ⟨g, 1, none⟩ = some (.slice (some ⟨gs, 0, none⟩) n c0) ∧ w'.cell? ⟨gs, k * 2, none⟩ = some (.int .i64 (f' k).a) ∧ w'.cell? ⟨gs, k * 2 + 1, none⟩ = some (.int .i64 (f' k).b) ∧ w'.cell? ⟨gs, i * 2, none⟩ = some (.int .i64 (f' i).a) ∧ w'.cell? ⟨gs, i * 2 + 1, none⟩ = some (.int .i64 (f' i).b)) from
            fun w' hb => ⟨hb, cu_below hb k0 hgl, cu_below hb k1 hgl, cu_below hb ka hgsl, cu_below hb kb hgsl, cu_below hb ia hgsl, cu_below hb ib hgsl⟩)
          go_region_held3 (fun w' => Below wq.heap.size wq w' ∧ w'.cell? ⟨g, 0, none⟩ = some (.func (.func 41) #[] #[]) ∧ w'.cell? ⟨g, 1, none⟩ = some (.slice (some ⟨gs, 0, none⟩) n c0) ∧ w'.cell? ⟨gs, k * 2, none⟩ = some (.int .i64 (f' k).a) ∧ w'.cell? ⟨gs, k * 2 + 1, none⟩ = some (.int .i64 (f' k).b) ∧ w'.cell? ⟨gs, i * 2, none⟩ = some (.int .i64 (f' i).a) ∧ w'.cell? ⟨gs, i * 2 + 1, none⟩ = some (.int .i64 (f' i).b))
            (first | exact key.out _ (below_drew _) | exact key.out _ (by assumption))
            (first | (go_at_call 41; refine (hC0.out _).mono ?_; rintro e w5 ⟨rfl, hb5⟩; have hb6 := below_step (‹Below wq.heap.size wq _ ∧ _› : _ ∧ _).1 hb5))
          have hI5 := hide (hI4.out.stays (‹Below wq.heap.size wq w5 ∧ _› : _ ∧ _).1)
          clear key hC0 hb5 hb6 ka kb ia ib k0 k1 hI4 hgl hgsl
          cases b2
          · have hoa := hI5.out.oa
            have hob := hI5.out.ob
            have hra := hI5.out.ra
            have hrb := hI5.out.rb
            have hfa := hI5.out.fa
            have hfb := hI5.out.fb
            have hz := hI5.out.lt
            have hD := hide hI5.out.done
            go_wp2
            refine bodyPost_ret (v := .agg #[.int .i64 (f 0).a, .int .i64 (f 0).b]) (by simp [results, Try.results44, go_sem, hra, hrb, hz]) rfl ⟨rfl, ?_, hD.out.2⟩
            rw [← hS.out, siftDown_stop hlt (by rw [← hkid.out]; exact hb2.out.symm)]
            exact hD.out.1
          · obtain ⟨ka, kb⟩ := hI5.out.at'.cells k hkn
            obtain ⟨ia, ib⟩ := hI5.out.at'.cells i (by omega)
            have k0 := hI5.out.at'.c0
            have k1 := hI5.out.at'.c1
            have hgl := hI5.out.at'.lt
            have hgsl := hI5.out.at'.own.at_base.2
            have ffk := hI5.out.at'.frees (k * 2)
            have ffk1 := hI5.out.at'.frees (k * 2 + 1)
            have ffi := hI5.out.at'.frees (i * 2)
            have ffi1 := hI5.out.at'.frees (i * 2 + 1)
            go_wp2
            go_region
            go_wp2
            have hsw := hide (hI5.out.swap (show i < n by omega) hkn)
            have hgo := siftDown_go (lt := popLt) (n := n) (f := f') (i := i) hlt (by rw [← hkid.out]; exact hb2.out.symm)
            rw [← hkid.out] at hgo
            replace hgo := hide hgo
            go_roundw
            case rel =>
              refine ⟨k, swf f' i k, by omega, by go_num, hide ?_, hide ?_⟩
              · first | exact hsw.out.drew | exact hsw.out.drewN _
              · rw [← hS.out]; exact hgo.out.symm
            case measure => simp [intOf]; omega
        · obtain ⟨k, hk1⟩ : ∃ k, k = m + 1 := ⟨_, rfl⟩
          have hkid := hide (show k = kid popLt n f' i by unfold kid; rw [← hm'.out, if_pos ⟨hlt2, by rw [← hb.out]⟩, hk1])
          have hkn : k < n := by omega
          have hik : i < k := by have := hm'.out; omega
          have hq2 := hide (show (m : Int) + 1 = (k : Int) by omega)
          replace hk1 := hide hk1
          go_wp2
          simp only [hq2.out]
          obtain ⟨ka, kb⟩ := hI4.out.at'.cells k hkn
          obtain ⟨ia, ib⟩ := hI4.out.at'.cells i (by omega)
          have k0 := hI4.out.at'.c0
          have k1 := hI4.out.at'.c1
          have hgl := hI4.out.at'.lt
          have hgsl := hI4.out.at'.own.at_base.2
          have ik : (0 : Int) ≤ (k : Int) ∧ (k : Int) < (n : Int) := by omega
          have ii : (0 : Int) ≤ (i : Int) ∧ (i : Int) < (n : Int) := by omega
          have hC0 := hide (less_any (f' k) (f' i))
          obtain ⟨b2, hb2⟩ : ∃ b, b = popLt (f' k) (f' i) := ⟨_, rfl⟩
          rw [← hb2] at hC0
          replace hb2 := hide hb2
          have key := hide (show ∀ w', Below wq.heap.size wq w' → (Below wq.heap.size wq w' ∧ w'.cell? ⟨g, 0, none⟩ = some (.func (.func 41) #[] #[]) ∧ w'.cell? ⟨g, 1, none⟩ = some (.slice (some ⟨gs, 0, none⟩) n c0) ∧ w'.cell? ⟨gs, k * 2, none⟩ = some (.int .i64 (f' k).a) ∧ w'.cell? ⟨gs, k * 2 + 1, none⟩ = some (.int .i64 (f' k).b) ∧ w'.cell? ⟨gs, i * 2, none⟩ = some (.int .i64 (f' i).a) ∧ w'.cell? ⟨gs, i * 2 + 1, none⟩ = some (.int .i64 (f' i).b)) from
            fun w' hb => ⟨hb, cu_below hb k0 hgl, cu_below hb k1 hgl, cu_below hb ka hgsl, cu_below hb kb hgsl, cu_below hb ia hgsl, cu_below hb ib hgsl⟩)
          go_region_held3 (fun w' => Below wq.heap.size wq w' ∧ w'.cell? ⟨g, 0, none⟩ = some (.func (.func 41) #[] #[]) ∧ w'.cell? ⟨g, 1, none⟩ = some (.slice (some ⟨gs, 0, none⟩) n c0) ∧ w'.cell? ⟨gs, k * 2, none⟩ = some (.int .i64 (f' k).a) ∧ w'.cell? ⟨gs, k * 2 + 1, none⟩ = some (.int .i64 (f' k).b) ∧ w'.cell? ⟨gs, i * 2, none⟩ = some (.int .i64 (f' i).a) ∧ w'.cell? ⟨gs, i * 2 + 1, none⟩ = some (.int .i64 (f' i).b))
            (first | exact key.out _ (below_drew _) | exact key.out _ (by assumption))
            (first | (go_at_call 41; refine (hC0.out _).mono ?_; rintro e w5 ⟨rfl, hb5⟩; have hb6 := below_step (‹Below wq.heap.size wq _ ∧ _› : _ ∧ _).1 hb5))
          have hI5 := hide (hI4.out.stays (‹Below wq.heap.size wq w5 ∧ _› : _ ∧ _).1)
          clear key hC0 hb5 hb6 ka kb ia ib k0 k1 hI4 hgl hgsl
          cases b2
          · have hoa := hI5.out.oa
            have hob := hI5.out.ob
            have hra := hI5.out.ra
            have hrb := hI5.out.rb
            have hfa := hI5.out.fa
            have hfb := hI5.out.fb
            have hz := hI5.out.lt
            have hD := hide hI5.out.done
            go_wp2
            refine bodyPost_ret (v := .agg #[.int .i64 (f 0).a, .int .i64 (f 0).b]) (by simp [results, Try.results44, go_sem, hra, hrb, hz]) rfl ⟨rfl, ?_, hD.out.2⟩
            rw [← hS.out, siftDown_stop hlt (by rw [← hkid.out]; exact hb2.out.symm)]
            exact hD.out.1
          · obtain ⟨ka, kb⟩ := hI5.out.at'.cells k hkn
            obtain ⟨ia, ib⟩ := hI5.out.at'.cells i (by omega)
            have k0 := hI5.out.at'.c0
            have k1 := hI5.out.at'.c1
            have hgl := hI5.out.at'.lt
            have hgsl := hI5.out.at'.own.at_base.2
            have ffk := hI5.out.at'.frees (k * 2)
            have ffk1 := hI5.out.at'.frees (k * 2 + 1)
            have ffi := hI5.out.at'.frees (i * 2)
            have ffi1 := hI5.out.at'.frees (i * 2 + 1)
            go_wp2
            go_region
            go_wp2
            have hsw := hide (hI5.out.swap (show i < n by omega) hkn)
            have hgo := siftDown_go (lt := popLt) (n := n) (f := f') (i := i) hlt (by rw [← hkid.out]; exact hb2.out.symm)
            rw [← hkid.out] at hgo
            replace hgo := hide hgo
            go_roundw
            case rel =>
              refine ⟨k, swf f' i k, by omega, by go_num, hide ?_, hide ?_⟩
              · first | exact hsw.out.drew | exact hsw.out.drewN _
              · rw [← hS.out]; exact hgo.out.symm
            case measure => simp [intOf]; omega
      · have hkid := hide (show m = kid popLt n f' i by unfold kid; rw [← hm'.out, if_neg (by omega)])
        obtain ⟨k, rfl⟩ : ∃ k, k = m := ⟨_, rfl⟩
        have hkn := hmn
        have hik : i < k := by have := hm'.out; omega
        have im1 := hide (show IntKind.i64.wrap ((k : Int) + 1) = (k : Int) + 1 from IntWalk.i64_in _ (by omega))
        have im4 := hide (show decide ((k : Int) + 1 < (n : Int)) = false by simp; omega)
        clear hm
        go_wp2
        replace hq := hq.out
        simp only [hq]
        clear hq
        replace im1 := im1.out
        replace im4 := im4.out
        go_quiet (fail)
        clear im1 im4 ma mb k0 k1 hgl hgsl
        have hI4 := hide (hI.out.drewN nq)
        generalize wr.drewN nq = wq at hI4 ⊢
        go_wp2
        obtain ⟨ka, kb⟩ := hI4.out.at'.cells k hkn
        obtain ⟨ia, ib⟩ := hI4.out.at'.cells i (by omega)
        have k0 := hI4.out.at'.c0
        have k1 := hI4.out.at'.c1
        have hgl := hI4.out.at'.lt
        have hgsl := hI4.out.at'.own.at_base.2
        have ik : (0 : Int) ≤ (k : Int) ∧ (k : Int) < (n : Int) := by omega
        have ii : (0 : Int) ≤ (i : Int) ∧ (i : Int) < (n : Int) := by omega
        have hC0 := hide (less_any (f' k) (f' i))
        obtain ⟨b2, hb2⟩ : ∃ b, b = popLt (f' k) (f' i) := ⟨_, rfl⟩
        rw [← hb2] at hC0
        replace hb2 := hide hb2
        have key := hide (show ∀ w', Below wq.heap.size wq w' → (Below wq.heap.size wq w' ∧ w'.cell? ⟨g, 0, none⟩ = some (.func (.func 41) #[] #[]) ∧ w'.cell? ⟨g, 1, none⟩ = some (.slice (some ⟨gs, 0, none⟩) n c0) ∧ w'.cell? ⟨gs, k * 2, none⟩ = some (.int .i64 (f' k).a) ∧ w'.cell? ⟨gs, k * 2 + 1, none⟩ = some (.int .i64 (f' k).b) ∧ w'.cell? ⟨gs, i * 2, none⟩ = some (.int .i64 (f' i).a) ∧ w'.cell? ⟨gs, i * 2 + 1, none⟩ = some (.int .i64 (f' i).b)) from
          fun w' hb => ⟨hb, cu_below hb k0 hgl, cu_below hb k1 hgl, cu_below hb ka hgsl, cu_below hb kb hgsl, cu_below hb ia hgsl, cu_below hb ib hgsl⟩)
        go_region_held3 (fun w' => Below wq.heap.size wq w' ∧ w'.cell? ⟨g, 0, none⟩ = some (.func (.func 41) #[] #[]) ∧ w'.cell? ⟨g, 1, none⟩ = some (.slice (some ⟨gs, 0, none⟩) n c0) ∧ w'.cell? ⟨gs, k * 2, none⟩ = some (.int .i64 (f' k).a) ∧ w'.cell? ⟨gs, k * 2 + 1, none⟩ = some (.int .i64 (f' k).b) ∧ w'.cell? ⟨gs, i * 2, none⟩ = some (.int .i64 (f' i).a) ∧ w'.cell? ⟨gs, i * 2 + 1, none⟩ = some (.int .i64 (f' i).b))
          (first | exact key.out _ (below_drew _) | exact key.out _ (by assumption))
          (first | (go_at_call 41; refine (hC0.out _).mono ?_; rintro e w5 ⟨rfl, hb5⟩; have hb6 := below_step (‹Below wq.heap.size wq _ ∧ _› : _ ∧ _).1 hb5))
        have hI5 := hide (hI4.out.stays (‹Below wq.heap.size wq w5 ∧ _› : _ ∧ _).1)
        clear key hC0 hb5 hb6 ka kb ia ib k0 k1 hI4 hgl hgsl
        cases b2
        · have hoa := hI5.out.oa
          have hob := hI5.out.ob
          have hra := hI5.out.ra
          have hrb := hI5.out.rb
          have hfa := hI5.out.fa
          have hfb := hI5.out.fb
          have hz := hI5.out.lt
          have hD := hide hI5.out.done
          go_wp2
          refine bodyPost_ret (v := .agg #[.int .i64 (f 0).a, .int .i64 (f 0).b]) (by simp [results, Try.results44, go_sem, hra, hrb, hz]) rfl ⟨rfl, ?_, hD.out.2⟩
          rw [← hS.out, siftDown_stop hlt (by rw [← hkid.out]; exact hb2.out.symm)]
          exact hD.out.1
        · obtain ⟨ka, kb⟩ := hI5.out.at'.cells k hkn
          obtain ⟨ia, ib⟩ := hI5.out.at'.cells i (by omega)
          have k0 := hI5.out.at'.c0
          have k1 := hI5.out.at'.c1
          have hgl := hI5.out.at'.lt
          have hgsl := hI5.out.at'.own.at_base.2
          have ffk := hI5.out.at'.frees (k * 2)
          have ffk1 := hI5.out.at'.frees (k * 2 + 1)
          have ffi := hI5.out.at'.frees (i * 2)
          have ffi1 := hI5.out.at'.frees (i * 2 + 1)
          go_wp2
          go_region
          go_wp2
          have hsw := hide (hI5.out.swap (show i < n by omega) hkn)
          have hgo := siftDown_go (lt := popLt) (n := n) (f := f') (i := i) hlt (by rw [← hkid.out]; exact hb2.out.symm)
          rw [← hkid.out] at hgo
          replace hgo := hide hgo
          go_roundw
          case rel =>
            refine ⟨k, swf f' i k, by omega, by go_num, hide ?_, hide ?_⟩
            · first | exact hsw.out.drew | exact hsw.out.drewN _
            · rw [← hS.out]; exact hgo.out.symm
          case measure => simp [intOf]; omega
    · have hoa := hI.out.oa
      have hob := hI.out.ob
      have hra := hI.out.ra
      have hrb := hI.out.rb
      have hfa := hI.out.fa
      have hfb := hI.out.fb
      have hz := hI.out.lt
      have hD := hide hI.out.done
      go_wp2
      refine bodyPost_ret (v := .agg #[.int .i64 (f 0).a, .int .i64 (f 0).b]) (by simp [results, Try.results44, go_sem, hra, hrb, hz]) rfl ⟨rfl, ?_, hD.out.2⟩
      rw [← hS.out, siftDown_end hlt]
      exact hD.out.1
end Go.Proofs.Ytccailcjclbhlaa
/-! Several texts in one: -/
/-! The first of a list that meets a condition. No program here. -/
namespace Go.Proofs.Ytccailcjclbhlaa
end Go.Proofs.Ytccailcjclbhlaa

/-! slices.IndexFunc, DeleteFunc, Index and Contains over numbers, the step of the first two being 'it is the one that a variable holds'. Conditions: that the slices read; a bound on the lengths. -/
namespace Go.Proofs.Ytccailcjclbhlaa
open Go.RowKit
set_option linter.unusedSimpArgs false
set_option linter.unusedVariables false
theorem Keep.setCellsI {S : Nat → Prop} {w : World} {b : Nat} (hb : S b) : ∀ (vs : List Value) (o : Nat) (w' : World), Keep S w w' → Keep S w (w'.setCells b o vs)
  | [], o, w', h => h
  | v :: r, o, w', h => Keep.setCellsI hb r (o + 1) _ (h.setCell (.inl hb) v)
end Go.Proofs.Ytccailcjclbhlaa
