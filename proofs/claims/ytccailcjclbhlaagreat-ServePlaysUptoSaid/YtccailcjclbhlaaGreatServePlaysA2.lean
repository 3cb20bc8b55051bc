/-
  A part of the proof of ServePlays: HeapB HeapPush HeapPop ListI Open IMapA
-/
import Derived.Test.YtccailcjclbhlaaGreatServePlaysA1
import Derived.BigQuiet
import Derived.Deep.QuietTactic
import Derived.WalkSpells
import Derived.WalkLawsBesides
import Derived.Deep.AppendLies
import Derived.LoopTactic
import Derived.BigRegion
import Derived.StillTailTactics
import Derived.Deep.RegionLaw
import Derived.Deep.RegionHeld3
import Derived.Lib.SliceRun
import Derived.ProofKit
import Derived.OpenShut
import Derived.Lib.SmallJoins
import Derived.Maps.Own
import Derived.Maps.OwnOps
import Derived.Maps.OwnSet
import Derived.Maps.Views
/-! Several texts in one: -/
/-! A heap in a list: one more sifted up, the first taken and the last sifted down. No program here. -/
namespace Go.Proofs.YtccailcjclbhlaaGreat
set_option linter.unusedVariables false

section
variable {α : Type}
/-- two exchanged -/
def swf (f : Nat → α) (i j : Nat) : Nat → α := upz (upz f i (f j)) j (f i)
theorem swf_left (f : Nat → α) {i j : Nat} : swf f i j i = f j := by
  unfold swf upz
  by_cases h : i = j
  · subst h; simp
  · simp [h]
theorem swf_right (f : Nat → α) (i j : Nat) : swf f i j j = f i := by simp [swf, upz]
theorem swf_other (f : Nat → α) {i j k : Nat} (h1 : k ≠ i) (h2 : k ≠ j) : swf f i j k = f k := by simp [swf, upz, h1, h2]
theorem swf_perm (f : Nat → α) {n i j : Nat} (hi : i < n) (hj : j < n) : (RW n (swf f i j)).Perm (RW n f) := by
  have h1 : i < (RW n f).length := by rw [rw_len]; exact hi
  have h2 : j < (RW n f).length := by rw [rw_len]; exact hj
  have h := List.set_set_perm h1 h2
  rw [rw_get, rw_get, rw_set, rw_set] at h
  exact h
/-- an order: what is not less -/
structure Ord (lt : α → α → Bool) : Prop where
  irr : ∀ a, lt a a = false
  asym : ∀ a b, lt a b = true → lt b a = false
  trans : ∀ a b c, lt b a = false → lt c b = false → lt c a = false
variable {lt : α → α → Bool}
/-- none is less than the one above it -/
def HeapOK (lt : α → α → Bool) (n : Nat) (f : Nat → α) : Prop := ∀ i, 0 < i → i < n → lt (f i) (f ((i - 1) / 2)) = false
theorem heap_top (ho : Ord lt) {n : Nat} {f : Nat → α} (h : HeapOK lt n f) (i : Nat) (hi : i < n) : lt (f i) (f 0) = false := by
  induction i using Nat.strongRecOn with
  | ind i ih =>
    by_cases h0 : i = 0
    · subst h0; exact ho.irr _
    · exact ho.trans _ _ _ (ih ((i - 1) / 2) (by omega) (by omega)) (h i (by omega) hi)
def siftUp (lt : α → α → Bool) (f : Nat → α) (i : Nat) : Nat → α := if h : 0 < i then if lt (f i) (f ((i - 1) / 2)) = true then siftUp lt (swf f i ((i - 1) / 2)) ((i - 1) / 2) else f else f
termination_by i
decreasing_by omega
theorem siftUp_go {f : Nat → α} {i : Nat} (h : 0 < i) (hl : lt (f i) (f ((i - 1) / 2)) = true) : siftUp lt f i = siftUp lt (swf f i ((i - 1) / 2)) ((i - 1) / 2) := by rw [siftUp, dif_pos h, if_pos hl]
theorem siftUp_stop {f : Nat → α} {i : Nat} (h : 0 < i) (hl : lt (f i) (f ((i - 1) / 2)) = false) : siftUp lt f i = f := by rw [siftUp, dif_pos h, if_neg (by simp [hl])]
theorem siftUp_top {f : Nat → α} : siftUp lt f 0 = f := by rw [siftUp, dif_neg (by omega)]
/-- all in order but i and the one above it; those below i are not less than the one above i -/
structure UpInv (lt : α → α → Bool) (n : Nat) (f : Nat → α) (i : Nat) : Prop where
  rest : ∀ j, 0 < j → j < n → j ≠ i → lt (f j) (f ((j - 1) / 2)) = false
  kids : ∀ j, 0 < j → j < n → (j - 1) / 2 = i → 0 < i → lt (f j) (f ((i - 1) / 2)) = false
theorem siftUp_ok (ho : Ord lt) {n : Nat} : ∀ (i : Nat) (f : Nat → α), i < n → UpInv lt n f i → HeapOK lt n (siftUp lt f i) ∧ (RW n (siftUp lt f i)).Perm (RW n f) := by
  intro i
  induction i using Nat.strongRecOn with
  | ind i ih =>
    intro f hi h
    by_cases h0 : i = 0
    · subst h0
      rw [siftUp_top]
      exact ⟨fun j hj hjn => h.rest j hj hjn (by omega), List.Perm.refl _⟩
    · have hp : (i - 1) / 2 < i := by omega
      cases hl : lt (f i) (f ((i - 1) / 2)) with
      | false =>
        rw [siftUp_stop (by omega) hl]
        refine ⟨fun j hj hjn => ?_, List.Perm.refl _⟩
        by_cases e : j = i
        · subst e; exact hl
        · exact h.rest j hj hjn e
      | true =>
        rw [siftUp_go (by omega) hl]
        have hne : (i - 1) / 2 ≠ i := by omega
        have inv : UpInv lt n (swf f i ((i - 1) / 2)) ((i - 1) / 2) := by
          constructor
          · intro j hj hjn hjk
            by_cases e : j = i
            · subst e
              rw [swf_left, swf_right]
              exact ho.asym _ _ hl
            · rw [swf_other _ e hjk]
              by_cases e1 : (j - 1) / 2 = i
              · rw [e1, swf_left]
                exact h.kids j hj hjn e1 (by omega)
              · by_cases e2 : (j - 1) / 2 = (i - 1) / 2
                · rw [e2, swf_right]
                  have h1 := h.rest j hj hjn e
                  rw [e2] at h1
                  exact ho.trans _ _ _ (ho.asym _ _ hl) h1
                · rw [swf_other _ e1 e2]
                  exact h.rest j hj hjn e
          · intro j hj hjn hjp hk0
            have hpp : ((i - 1) / 2 - 1) / 2 ≠ i ∧ ((i - 1) / 2 - 1) / 2 ≠ (i - 1) / 2 := by omega
            rw [swf_other f hpp.1 hpp.2]
            have hup := h.rest ((i - 1) / 2) hk0 (by omega) hne
            by_cases e : j = i
            · subst e
              rw [swf_left]
              exact hup
            · have e2 : j ≠ (i - 1) / 2 := by omega
              rw [swf_other _ e e2]
              have h1 := h.rest j hj hjn e
              rw [hjp] at h1
              exact ho.trans _ _ _ hup h1
        obtain ⟨r1, r2⟩ := ih _ hp _ (by omega) inv
        exact ⟨r1, r2.trans (swf_perm f hi (by omega))⟩
/-- one more at the end, sifted up -/
theorem push_ok (ho : Ord lt) {n : Nat} {f : Nat → α} (h : HeapOK lt n f) (x : α) : HeapOK lt (n + 1) (siftUp lt (upz f n x) n) ∧ (RW (n + 1) (siftUp lt (upz f n x) n)).Perm (RW n f ++ [x]) := by
  have inv : UpInv lt (n + 1) (upz f n x) n := by
    constructor
    · intro j hj hjn hjk
      rw [upz_other _ _ hjk, upz_other _ _ (show (j - 1) / 2 ≠ n by omega)]
      exact h j hj (by omega)
    · intro j hj hjn hjp _
      omega
  obtain ⟨r1, r2⟩ := siftUp_ok ho n _ (by omega) inv
  refine ⟨r1, r2.trans ?_⟩
  have e : RW (n + 1) (upz f n x) = RW n f ++ [x] := by
    unfold RW
    rw [List.range_succ, List.map_append]
    congr 1
    · apply List.map_congr_left
      intro v hv
      exact upz_other _ _ (by have := List.mem_range.1 hv; omega)
    · simp [upz]
  rw [e]
/-- the lesser of the two below -/
def kid (lt : α → α → Bool) (n : Nat) (f : Nat → α) (i : Nat) : Nat := if 2 * i + 1 + 1 < n ∧ lt (f (2 * i + 1 + 1)) (f (2 * i + 1)) = true then 2 * i + 1 + 1 else 2 * i + 1
theorem kid_is (n : Nat) (f : Nat → α) (i : Nat) (h : 2 * i + 1 < n) : kid lt n f i < n ∧ (kid lt n f i - 1) / 2 = i ∧ i < kid lt n f i := by
  unfold kid
  split <;> omega
theorem kid_least (ho : Ord lt) (n : Nat) (f : Nat → α) (i j : Nat) (hj : 0 < j) (hjn : j < n) (hp : (j - 1) / 2 = i) : lt (f j) (f (kid lt n f i)) = false := by
  unfold kid
  have hc : j = 2 * i + 1 ∨ j = 2 * i + 1 + 1 := by omega
  split
  · rename_i h
    rcases hc with rfl | rfl
    · exact ho.asym _ _ h.2
    · exact ho.irr _
  · rename_i h
    rcases hc with rfl | rfl
    · exact ho.irr _
    · cases hl : lt (f (2 * i + 1 + 1)) (f (2 * i + 1)) with
      | false => rfl
      | true => exact absurd ⟨hjn, hl⟩ h
def siftDown (lt : α → α → Bool) (n : Nat) (f : Nat → α) (i : Nat) : Nat → α := if h : 2 * i + 1 < n then if lt (f (kid lt n f i)) (f i) = true then siftDown lt n (swf f i (kid lt n f i)) (kid lt n f i) else f else f
termination_by n - i
decreasing_by have := kid_is (lt := lt) n f i h; omega
theorem siftDown_go {n : Nat} {f : Nat → α} {i : Nat} (h : 2 * i + 1 < n) (hl : lt (f (kid lt n f i)) (f i) = true) : siftDown lt n f i = siftDown lt n (swf f i (kid lt n f i)) (kid lt n f i) := by rw [siftDown, dif_pos h, if_pos hl]
theorem siftDown_stop {n : Nat} {f : Nat → α} {i : Nat} (h : 2 * i + 1 < n) (hl : lt (f (kid lt n f i)) (f i) = false) : siftDown lt n f i = f := by rw [siftDown, dif_pos h, if_neg (by simp [hl])]
theorem siftDown_end {n : Nat} {f : Nat → α} {i : Nat} (h : ¬ 2 * i + 1 < n) : siftDown lt n f i = f := by rw [siftDown, dif_neg h]
structure DownInv (lt : α → α → Bool) (n : Nat) (f : Nat → α) (i : Nat) : Prop where
  rest : ∀ j, 0 < j → j < n → (j - 1) / 2 ≠ i → lt (f j) (f ((j - 1) / 2)) = false
  kids : ∀ j, 0 < j → j < n → (j - 1) / 2 = i → 0 < i → lt (f j) (f ((i - 1) / 2)) = false
theorem siftDown_ok (ho : Ord lt) {n : Nat} : ∀ (d i : Nat) (f : Nat → α), n - i = d → i < n → DownInv lt n f i → HeapOK lt n (siftDown lt n f i) ∧ (RW n (siftDown lt n f i)).Perm (RW n f) := by
  intro d
  induction d using Nat.strongRecOn with
  | ind d ih =>
    intro i f hd hi h
    by_cases h0 : 2 * i + 1 < n
    · obtain ⟨k1, k2, k3⟩ := kid_is (lt := lt) n f i h0
      have kl := kid_least ho n f i
      obtain ⟨k, hk⟩ : ∃ k, k = kid lt n f i := ⟨_, rfl⟩
      rw [← hk] at k1 k2 k3 kl
      cases hl : lt (f k) (f i) with
      | false =>
        rw [siftDown_stop h0 (by rw [← hk]; exact hl)]
        refine ⟨fun j hj hjn => ?_, List.Perm.refl _⟩
        by_cases e : (j - 1) / 2 = i
        · rw [e]
          exact ho.trans _ _ _ hl (kl j hj hjn e)
        · exact h.rest j hj hjn e
      | true =>
        rw [siftDown_go h0 (by rw [← hk]; exact hl), ← hk]
        have hne : k ≠ i := by omega
        have inv : DownInv lt n (swf f i k) k := by
          constructor
          · intro j hj hjn hjp
            by_cases e : (j - 1) / 2 = i
            · rw [e, swf_left]
              by_cases e2 : j = k
              · subst e2; rw [swf_right]; exact ho.asym _ _ hl
              · rw [swf_other _ (by omega) e2]
                exact kl j hj hjn e
            · rw [swf_other _ e hjp]
              by_cases e2 : j = i
              · subst e2
                rw [swf_left]
                exact h.kids k (by omega) k1 k2 (by omega)
              · by_cases e3 : j = k
                · subst e3; exact absurd k2 e
                · rw [swf_other _ e2 e3]
                  exact h.rest j hj hjn e
          · intro j hj hjn hjp hk0
            rw [k2, swf_left]
            have e1 : j ≠ i := by omega
            have e2 : j ≠ k := by omega
            rw [swf_other _ e1 e2]
            have := h.rest j hj hjn (by omega)
            rw [hjp] at this
            exact this
        obtain ⟨r1, r2⟩ := ih (n - k) (by omega) k _ rfl k1 inv
        exact ⟨r1, r2.trans (swf_perm f hi k1)⟩
    · rw [siftDown_end h0]
      refine ⟨fun j hj hjn => ?_, List.Perm.refl _⟩
      exact h.rest j hj hjn (by omega)
/-- the first taken, the last put in its place and sifted down -/
theorem pop_ok (ho : Ord lt) {n : Nat} {f : Nat → α} (h : HeapOK lt (n + 1) f) : HeapOK lt n (siftDown lt n (upz f 0 (f n)) 0) ∧ (f 0 :: RW n (siftDown lt n (upz f 0 (f n)) 0)).Perm (RW (n + 1) f) := by
  by_cases hn : n = 0
  · subst hn
    refine ⟨fun i h1 h2 => by omega, ?_⟩
    simp [RW]
  · have inv : DownInv lt n (upz f 0 (f n)) 0 := by
      constructor
      · intro j hj hjn hjp
        rw [upz_other _ _ (show j ≠ 0 by omega), upz_other _ _ hjp]
        exact h j hj (by omega)
      · intro j hj hjn hjp h0
        omega
    obtain ⟨r1, r2⟩ := siftDown_ok ho (n - 0) 0 _ rfl (by omega) inv
    refine ⟨r1, (r2.cons _).trans ?_⟩
    have e1 : RW (n + 1) f = f 0 :: (RW n f).tail ++ [f n] := by
      have e0 : RW (n + 1) f = RW n f ++ [f n] := by unfold RW; rw [List.range_succ, List.map_append]; rfl
      have e3 : RW n f = f 0 :: (RW n f).tail := by
        obtain ⟨m, rfl⟩ : ∃ m, n = m + 1 := ⟨n - 1, by omega⟩
        simp [RW, List.range_succ_eq_map]
      rw [e0]
      exact congrArg (· ++ [f n]) e3
    have e2 : RW n (upz f 0 (f n)) = f n :: (RW n f).tail := by
      obtain ⟨m, rfl⟩ : ∃ m, n = m + 1 := ⟨n - 1, by omega⟩
      rw [← rw_set]
      simp [RW, List.range_succ_eq_map]
    rw [e1, e2]
    simp only [List.cons_append]
    exact List.Perm.cons _ (List.perm_append_singleton _ _).symm
end
end Go.Proofs.YtccailcjclbhlaaGreat

/-! heap.Less: the order of what waits. Condition: none. -/
namespace Go.Proofs.YtccailcjclbhlaaGreat
open Go.RowKit
set_option linter.unusedSimpArgs false
set_option linter.unusedVariables false

end Go.Proofs.YtccailcjclbhlaaGreat

/-! A heap in memory: an object of two cells, its slice the call's own. No condition. -/
namespace Go.Proofs.YtccailcjclbhlaaGreat
open Go.RowKit
set_option linter.unusedSimpArgs false
set_option linter.unusedVariables false
theorem rw_push {α : Type} (n : Nat) (f : Nat → α) (x : α) : RW (n + 1) (upz f n x) = RW n f ++ [x] := by
  unfold RW
  rw [List.range_succ, List.map_append]
  congr 1
  · apply List.map_congr_left
    intro v hv
    exact upz_other _ _ (by have := List.mem_range.1 hv; omega)
  · simp [upz]
end Go.Proofs.YtccailcjclbhlaaGreat
/-! heap.Pop over pairs. Conditions: at least one, bounds on the length. -/
namespace Go.Proofs.YtccailcjclbhlaaGreat
open Go.RowKit
set_option linter.unusedSimpArgs false
set_option linter.unusedVariables false
theorem Own.shrink {α : Type} {enc : α → List Value} {sz : Nat} {e : TypeId} {w : World} {base : Nat} {xs : List α} {x : α} {g n c : Nat} (h : Own enc sz e w base (.slice (some ⟨g, 0, none⟩) (n + 1) c) (xs ++ [x])) (hlen : ∀ x, (enc x).length = sz) : Own enc sz e w base (.slice (some ⟨g, 0, none⟩) n c) xs := by
  have hl := h.len
  have hn : xs.length = n := by simpa using hl
  have hfl : (xs.flatMap enc).length = xs.length * sz := by
    clear h hl hn
    induction xs with
    | nil => simp
    | cons x r ih => simp only [List.flatMap_cons, List.length_append, ih, hlen, List.length_cons, Nat.succ_mul]; omega
  subst hn
  refine ⟨hfl, ?_⟩
  rcases h.2 with ⟨h1, _⟩ | ⟨g', cap, cur, h1, h2, h3, h4, h5, h6, h7⟩
  · cases h1
  · right
    simp only [Value.slice.injEq, Option.some.injEq, Addr.mk.injEq] at h1
    obtain ⟨⟨rfl, _⟩, _, rfl⟩ := h1
    refine ⟨g, c, cur, rfl, h2, h3, by simp at h4; omega, h5, h6, ?_⟩
    have e1 : cur.toList.take (xs.length * sz) = (cur.toList.take ((xs ++ [x]).length * sz)).take (xs.length * sz) := by
      rw [List.take_take]
      congr 1
      simp only [List.length_append, List.length_cons, List.length_nil, Nat.zero_add, Nat.add_mul, Nat.one_mul]
      omega
    rw [e1, h7, List.flatMap_append, List.take_append_of_le_length (by omega), List.take_of_length_le (by omega)]
theorem rw_snoc {α : Type} (n : Nat) (f : Nat → α) : RW (n + 1) f = RW n f ++ [f n] := by
  unfold RW
  rw [List.range_succ, List.map_append]
  rfl
end Go.Proofs.YtccailcjclbhlaaGreat
/-! Several texts in one: -/
/-! The first of a list that meets a condition. No program here. -/
namespace Go.Proofs.YtccailcjclbhlaaGreat
def firstB : List Bool → Nat → Int
  | [], _ => -1
  | b :: r, k => if b = true then (k : Int) else firstB r (k + 1)
theorem firstB_hit {bs : List Bool} {k : Nat} (h : k < bs.length) (hb : bs[k] = true) : firstB (bs.drop k) k = k := by
  rw [List.drop_eq_getElem_cons h]
  simp [firstB, hb]
theorem firstB_miss {bs : List Bool} {k : Nat} (h : k < bs.length) (hb : bs[k] = false) : firstB (bs.drop k) k = firstB (bs.drop (k + 1)) (k + 1) := by
  rw [List.drop_eq_getElem_cons h]
  simp [firstB, hb]
theorem firstB_end {bs : List Bool} {k : Nat} (h : bs.length ≤ k) : firstB (bs.drop k) k = -1 := by
  rw [List.drop_of_length_le h]; rfl
end Go.Proofs.YtccailcjclbhlaaGreat

/-! slices.IndexFunc, DeleteFunc, Index and Contains over numbers, the step of the first two being 'it is the one that a variable holds'. Conditions: that the slices read; a bound on the lengths. -/
namespace Go.Proofs.YtccailcjclbhlaaGreat
open Go.RowKit
set_option linter.unusedSimpArgs false
set_option linter.unusedVariables false
def eqs (y : Int) (xs : List Int) : List Bool := xs.map fun x => x == y
def dels (y : Int) (xs : List Int) : List Int := xs.filter fun x => !(x == y)
theorem firstB_say : ∀ (bs : List Bool) (k : Nat), (firstB bs k = -1 ∧ ∀ b ∈ bs, b = false) ∨ ∃ i, ∃ h : i < bs.length, firstB bs k = ((k + i : Nat) : Int) ∧ bs[i] = true ∧ ∀ t (ht : t < i), bs[t]'(by omega) = false
  | [], k => .inl ⟨rfl, fun e he => by cases he⟩
  | x :: r, k => by
    rw [firstB]
    by_cases h : x = true
    · rw [if_pos h]
      exact .inr ⟨0, by simp, by simp, by simpa using h, fun t ht => by omega⟩
    · rw [if_neg h]
      rcases firstB_say r (k + 1) with ⟨h1, h2⟩ | ⟨i, hi, h1, h2, h3⟩
      · refine .inl ⟨h1, fun e he => ?_⟩
        rcases List.mem_cons.1 he with rfl | he
        · simpa using h
        · exact h2 e he
      · refine .inr ⟨i + 1, by simpa using hi, by rw [h1]; congr 1; omega, by simpa using h2, fun t ht => ?_⟩
        cases t with
        | zero => simpa using h
        | succ t => simpa using h3 t (by omega)
theorem dels_none {y : Int} {xs : List Int} (h : ∀ b ∈ eqs y xs, b = false) : dels y xs = xs := by
  unfold dels
  rw [List.filter_eq_self]
  intro x hx
  have := h (x == y) (List.mem_map.2 ⟨x, hx, rfl⟩)
  rw [this]; rfl
theorem dels_take {y : Int} {xs : List Int} {j : Nat} (hj : j < xs.length) : dels y (xs.take (j + 1)) = dels y (xs.take j) ++ (if (xs[j] == y) = true then [] else [xs[j]]) := by
  unfold dels
  rw [List.take_succ_eq_append_getElem hj, List.filter_append, List.filter_cons]
  cases h : xs[j] == y <;> simp
theorem dels_first {y : Int} {xs : List Int} {i : Nat} (hi : i < xs.length) (h1 : (xs[i] == y) = true) (h2 : ∀ t (ht : t < i), ((xs[t]'(by omega)) == y) = false) : dels y (xs.take (i + 1)) = xs.take i := by
  rw [dels_take hi, if_pos h1, List.append_nil]
  unfold dels
  rw [List.filter_eq_self]
  intro x hx
  obtain ⟨t, ht, rfl⟩ := List.getElem_of_mem hx
  rw [List.length_take] at ht
  rw [List.getElem_take, h2 t (by omega)]
  rfl
theorem Own.takeI {e : TypeId} {w : World} {base g c : Nat} : ∀ (d m : Nat) (xs : List Int), Own encI 1 e w base (.slice (some ⟨g, 0, none⟩) (m + d) c) xs → Own encI 1 e w base (.slice (some ⟨g, 0, none⟩) m c) (xs.take m)
  | 0, m, xs, h => by
    have hl := h.len
    rw [List.take_of_length_le (by omega)]
    exact h
  | d + 1, m, xs, h => by
    have hl := h.len
    have hne : xs ≠ [] := by intro e; subst e; simp at hl
    rw [← List.dropLast_concat_getLast hne] at h
    have h2 := Own.takeI d m _ (h.shrink lenI : Own encI 1 e w base (.slice (some ⟨g, 0, none⟩) (m + d) c) xs.dropLast)
    rwa [List.dropLast_eq_take, List.take_take, Nat.min_eq_left (by omega)] at h2
/-- zeros behind the first i -/
theorem Own.wipeI {e : TypeId} {base g n c : Nat} : ∀ (d i : Nat) (w : World) (xs : List Int), Own encI 1 e w base (.slice (some ⟨g, 0, none⟩) n c) xs → i + d = n → ∃ ys, Own encI 1 e (w.setCells g i (List.replicate d (.int .i64 0))) base (.slice (some ⟨g, 0, none⟩) n c) ys ∧ ys.take i = xs.take i
  | 0, i, w, xs, h, _ => ⟨xs, h, rfl⟩
  | d + 1, i, w, xs, h, hn => by
    have hl := h.len
    have h1 := h.putI i (by omega) 0
    obtain ⟨ys, h2, h3⟩ := Own.wipeI d (i + 1) _ _ h1 (by omega)
    refine ⟨ys, h2, ?_⟩
    have h4 := congrArg (List.take i) h3
    rw [List.take_take, List.take_take, Nat.min_eq_left (by omega)] at h4
    rw [h4, List.take_set_of_le (by omega)]
theorem Keep.setCellsI {S : Nat → Prop} {w : World} {b : Nat} (hb : S b) : ∀ (vs : List Value) (o : Nat) (w' : World), Keep S w w' → Keep S w (w'.setCells b o vs)
  | [], o, w', h => h
  | v :: r, o, w', h => Keep.setCellsI hb r (o + 1) _ (h.setCell (.inl hb) v)
theorem zeroI (w : World) : (zeroValue 3).run Tryz.prog w = .ok (.int .i64 0) w := by kernel_rfl
def DelAns (y : Int) (xs : List Int) (base : Nat) (v : Value) (w : World) (e : Ending) (w' : World) : Prop := ∃ a c, e = .returned (.slice a (dels y xs).length c) ∧ Own encI 1 3 w' base (.slice a (dels y xs).length c) (dels y xs) ∧ Keep (fun j => v.ownBlock = some j) w w' ∧ ∀ b, (Value.slice a (dels y xs).length c).ownBlock = some b → v.ownBlock = some b
set_option maxRecDepth 100000 in
set_option maxHeartbeats 1000000 in
theorem index_any (y : Int) (an : Option Addr) (cn m : Nat) (xs : List Int) (w : World) (B : Nat) (hm : xs.length = m) (hE : Row encI 1 w B an xs) (hm2 : m ≤ 1000000) :
    Calls Tryz.prog 78 #[.slice an m cn, .int .i64 y] w fun e w' => e = .returned (.int .i64 (firstB (eqs y xs) 0)) ∧ w' = w := by
  obtain ⟨bs, hbse⟩ : ∃ bs, bs = eqs y xs := ⟨_, rfl⟩
  have hbl := hide (show bs.length = m by rw [hbse]; simp [eqs, hm])
  have hbb := hide (show ∀ k (h : k < xs.length) (h2 : k < bs.length), bs[k] = (xs[k] == y) from fun k h h2 => by subst hbse; simp [eqs])
  rw [← hbse]
  clear hbse
  replace hE := hide hE
  replace hm := hide hm
  go_enter Tryz.func78, Tryz.ntmps78
  go_wp2
  go_loopw [5, 8] (fun _ i wr => ∃ k : Nat, k ≤ m ∧ i = .int .i64 k ∧ Hid (firstB bs 0 = firstB (bs.drop k) k) ∧ wr = w) (fun _ i _ => m - (intOf i).toNat)
  case atStart => exact ⟨0, Nat.zero_le _, rfl, hide rfl, rfl⟩
  case round =>
    obtain ⟨k, hk2, rfl, hrest, rfl⟩ := hrel
    by_cases hlt : k < m
    · have hk' : k < xs.length := by have := hm.out; omega
      have hk'' : k < bs.length := by have := hbl.out; omega
      obtain ⟨b4, o4, rfl, hbB, f1⟩ := hE.out.int k hk'
      have hv := hide (hbb.out k hk' hk'')
      have hit := hide (firstB_hit hk'')
      have miss := hide (firstB_miss hk'')
      have ik : (0 : Int) ≤ (k : Int) ∧ (k : Int) < (m : Int) := by omega
      generalize xs[k] = x at f1 hv
      by_cases hxy : x = y
      · have hfin := hide (show (k : Int) = firstB bs 0 by rw [hrest.out, hit.out (by rw [hv.out]; simpa using hxy)])
        have q : (y == x) = true := by simp [hxy]
        replace hxy := hide hxy
        go_wp2
        go_ret
        exact ⟨ret_int hfin.out, rfl⟩
      · have hnx := hide (show firstB bs 0 = firstB (bs.drop (k + 1)) (k + 1) by rw [hrest.out, miss.out (by rw [hv.out]; simpa using hxy)])
        have q : (y == x) = false := by simp; exact fun h => hxy h.symm
        go_wp2
        go_roundw
        case rel => exact ⟨k + 1, by omega, by go_num, hnx, by first | rfl | trivial⟩
        case measure => simp [intOf]; omega
    · obtain rfl : k = m := by omega
      have hfin := hide (show -1 = firstB bs 0 by rw [hrest.out, firstB_end (by rw [hbl.out]; exact Nat.le_refl _)])
      go_wp2
      go_ret
      exact ⟨ret_int hfin.out, rfl⟩
theorem contI_any (y : Int) (an : Option Addr) (cn m : Nat) (xs : List Int) (w : World) (B : Nat) (hm : xs.length = m) (hE : Row encI 1 w B an xs) (hm2 : m ≤ 1000000) :
    Calls Tryz.prog 56 #[.slice an m cn, .int .i64 y] w fun e w' => e = .returned (.bool (decide (y ∈ xs))) ∧ w' = w := by
  have hI := hide (index_any y an cn m xs w B hm hE hm2)
  have hA := hide (show decide (0 ≤ firstB (eqs y xs) 0) = decide (y ∈ xs) from by
    rcases firstB_say (eqs y xs) 0 with ⟨h1, h2⟩ | ⟨i0, hi0, h1, h2, h3⟩
    · rw [h1]
      have : y ∉ xs := fun hy => by
        have := h2 (y == y) (List.mem_map.2 ⟨y, hy, rfl⟩)
        simp at this
      simp [this]
    · rw [h1]
      have hi1 : i0 < xs.length := by simpa [eqs] using hi0
      have : y ∈ xs := by
        have h4 : xs[i0] = y := by simpa [eqs] using h2
        rw [← h4]; exact List.getElem_mem hi1
      simp [this])
  clear hE hm
  generalize firstB (eqs y xs) 0 = z at hI hA
  generalize decide (y ∈ xs) = t at hA ⊢
  go_enter Tryz.func56, Tryz.ntmps56
  go_wp2_with fail
  refine hI.out.mono ?_
  rintro e w1 ⟨rfl, rfl⟩
  go_wp2
  go_ret
  exact ⟨ret_bool hA.out, rfl⟩
end Go.Proofs.YtccailcjclbhlaaGreat
/-! How an argument of a law reads: a fraction, a net, a grid, a slice of numbers, of edges, of pairs. No condition. -/
namespace Go.Proofs.YtccailcjclbhlaaGreat
open Go.ChangeShapes Go.WideShapes Go.ChangeAt Go.RowKit Go.Deep
set_option linter.unusedSimpArgs false
set_option linter.unusedVariables false

/-- fits 64 bits -/
def Bd (n : Int) : Prop := -9223372036854775808 ≤ n ∧ n ≤ 9223372036854775807
theorem wf_bd {n : Int} (h : (Lit.int .i64 n).wf = true) : Bd n := by
  simpa [Bd, Lit.wf, IntKind.min, IntKind.max, IntKind.signed, IntKind.bits] using h

theorem lt_of_cell {w : World} {b o : Nat} {v : Value} (h : w.cell? ⟨b, o, none⟩ = some v) : b < w.heap.size := by
  unfold World.cell? at h
  rcases Nat.lt_or_ge b w.heap.size with h' | h'
  · exact h'
  · rw [Array.getElem?_eq_none h'] at h; simp at h

section
variable {H : Type} {enc : TypeId × Value → H} {P : Program} {W : World} {b0 base : Nat} {spare : Nat → Bool} {held : Bool} {r : Reach}

theorem read_int {t : TypeId} {v : Value} {y : DataW H × List MemPlace} {n : Nat} (ht : P.underlying t = some (.int .i64)) (h : DataW.trod enc P W base spare held n t [v] = some y) : ∃ x, v = .int .i64 x ∧ Bd x := by
  obtain ⟨x, h1, _, h3⟩ := DataW.trod_int ht h
  exact ⟨x, by simpa using h1, wf_bd h3⟩

/-- a slice, its elements read by 'rd': what each element's cells are -/
theorem read_slice {α : Type} (en : α → List Value) (sz : Nat) (Q : α → Prop) {t e : TypeId} {v : Value} {y : DataW H × List MemPlace} {n : Nat} (ht : P.underlying t = some (.slice e)) (hC : P.cellsOf e = sz)
    (rd : ∀ (m : Nat) (cs : List Value) (y : DataW H × List MemPlace), cs.length = sz → DataW.trod enc P W base spare held m e cs = some y → ∃ x : α, cs = en x ∧ Q x) (hsz : ∀ x, (en x).length = sz) (hpos : 0 < sz)
    (h : DataW.trod enc P W base spare held n t [v] = some y) :
    ∃ (a : Option Addr) (cap : Nat) (xs : List α), v = .slice a xs.length cap ∧ xs.length ≤ cap ∧ cap ≤ maxLen ∧ Row en sz W W.heap.size a xs ∧ ∀ x ∈ xs, Q x := by
  rcases open_slice ht h with ⟨hcs, _⟩ | ⟨a, len, cap, m, k, D, Pl, hcs, _, hl, hm, hmm, _, hx⟩
  · exact ⟨none, 0, [], by simpa using hcs, Nat.le_refl _, Nat.zero_le _, Row.nil _ _ _ _ _, by simp⟩
  · have hle : len ≤ m := by rw [hmm]; split <;> omega
    have key : ∀ i, i < len → ∃ x : α, Q x ∧ ∃ b o, a = ⟨b, o, none⟩ ∧ b < W.heap.size ∧ ∀ j u, (en x)[j]? = some u → W.cell? ⟨b, o + i * sz + j, none⟩ = some u := by
      intro i hi
      obtain ⟨cs', hc, ht'⟩ := hx i (by omega)
      rw [hC] at hc
      obtain ⟨_, hlen, hcell⟩ := World.cells?_some hc
      obtain ⟨x, rfl, hq⟩ := rd _ _ _ hlen ht'
      have c0 := hcell 0 hpos
      have hsp : a = ⟨a.block, a.off, none⟩ := by
        have h0 : 0 < (en x).length := by rw [hsz]; exact hpos
        rw [List.getElem?_eq_getElem h0] at c0
        have hlast := hcell (sz - 1) (by omega)
        rw [List.getElem?_eq_getElem (by rw [hsz]; omega)] at hlast
        obtain ⟨b, o, s⟩ := a
        by_cases hz : i * sz = 0
        · have := World.cell?_spot c0
          simp only [Addr.add, hz, if_true] at this
          simp [this]
        · cases s with
          | none => rfl
          | some s =>
            exfalso
            obtain ⟨cs0, hc0, ht0⟩ := hx 0 (by omega)
            rw [hC] at hc0
            obtain ⟨_, hlen0, hcell0⟩ := World.cells?_some hc0
            obtain ⟨x0, rfl, _⟩ := rd _ _ _ hlen0 ht0
            have c00 := hcell0 0 hpos
            rw [List.getElem?_eq_getElem (by rw [hsz]; exact hpos)] at c00
            have := World.cell?_spot c00
            simp [Addr.add] at this
      refine ⟨x, hq, a.block, a.off, hsp, ?_, ?_⟩
      · rw [List.getElem?_eq_getElem (by rw [hsz]; exact hpos)] at c0
        rw [hsp, add_plain, add_plain] at c0
        exact lt_of_cell c0
      · intro j u hu
        have hj : j < sz := by
          have := (List.getElem?_eq_some_iff.1 hu).1
          rw [hsz] at this; exact this
        have := hcell j hj
        rw [hu, hsp, add_plain, add_plain] at this
        exact this
    have ⟨f, hf⟩ : ∃ f : Fin len → α, ∀ i : Fin len, Q (f i) ∧ ∃ b o, a = ⟨b, o, none⟩ ∧ b < W.heap.size ∧ ∀ j u, (en (f i))[j]? = some u → W.cell? ⟨b, o + i.1 * sz + j, none⟩ = some u :=
      ⟨fun i => Classical.choose (key i.1 i.2), fun i => Classical.choose_spec (key i.1 i.2)⟩
    refine ⟨some a, cap, List.ofFn f, by simpa using hcs, by simpa using hl, hm, ?_, ?_⟩
    · intro i hi
      have hi' : i < len := by simpa using hi
      obtain ⟨_, b, o, h1, h2, h3⟩ := hf ⟨i, hi'⟩
      exact ⟨b, o, by rw [h1], h2, by simpa using h3⟩
    · intro x hx
      obtain ⟨i, rfl⟩ := (List.mem_ofFn ..).1 hx
      exact (hf i).1

theorem read_ints {t e : TypeId} {v : Value} {y : DataW H × List MemPlace} {n : Nat} (ht : P.underlying t = some (.slice e)) (hC : P.cellsOf e = 1) (he : P.underlying e = some (.int .i64))
    (h : DataW.trod enc P W base spare held n t [v] = some y) :
    ∃ (a : Option Addr) (cap : Nat) (xs : List Int), v = .slice a xs.length cap ∧ xs.length ≤ cap ∧ cap ≤ maxLen ∧ Row encI 1 W W.heap.size a xs ∧ ∀ x ∈ xs, Bd x := by
  refine read_slice encI 1 Bd ht hC ?_ (fun _ => rfl) (by omega) h
  intro m cs y _ hy
  obtain ⟨x, h1, _, h3⟩ := DataW.trod_int he hy
  exact ⟨x, h1, wf_bd h3⟩

def BdP (p : P2) : Prop := Bd p.a ∧ Bd p.b
theorem read_p2s {t e : TypeId} {f0 f1 : Field} {v : Value} {y : DataW H × List MemPlace} {n : Nat} (ht : P.underlying t = some (.slice e)) (hC : P.cellsOf e = 2) (he : P.underlying e = some (.struct #[f0, f1]))
    (hone : oneCellFields P #[f0, f1] = true) (h0 : P.underlying f0.type = some (.int .i64)) (h1 : P.underlying f1.type = some (.int .i64))
    (h : DataW.trod enc P W base spare held n t [v] = some y) :
    ∃ (a : Option Addr) (cap : Nat) (xs : List P2), v = .slice a xs.length cap ∧ xs.length ≤ cap ∧ cap ≤ maxLen ∧ Row encP 2 W W.heap.size a xs ∧ ∀ x ∈ xs, BdP x := by
  refine read_slice encP 2 BdP ht hC ?_ (fun _ => rfl) (by omega) h
  intro m cs y hl hy
  match cs, hl with
  | [c0, c1], _ =>
    obtain ⟨y0, y1, k, _, _, g0, g1⟩ := trod_struct2 he hy
    obtain ⟨o0, k0⟩ := hone_of hone 0 f0 rfl
    obtain ⟨o1, k1⟩ := hone_of hone 1 f1 rfl
    rw [o0, k0] at g0; rw [o1, k1] at g1
    obtain ⟨a, e0, ba⟩ := read_int h0 (v := c0) (by simpa using g0)
    obtain ⟨b, e1, bb⟩ := read_int h1 (v := c1) (by simpa using g1)
    subst e0 e1
    exact ⟨⟨a, b⟩, rfl, ba, bb⟩

theorem openT_p2s {t e : TypeId} {f0 f1 : Field} {v : Value} {d : DataW H} {p : List MemPlace} (ht : P.underlying t = some (.slice e)) (hC : P.cellsOf e = 2) (he : P.underlying e = some (.struct #[f0, f1]))
    (hone : oneCellFields P #[f0, f1] = true) (h0 : P.underlying f0.type = some (.int .i64)) (h1 : P.underlying f1.type = some (.int .i64)) (hv : Value.okWide P W r b0 t v) (h : DataW.Trod enc P W base spare held t v d p) :
    ∃ (a : Option Addr) (cap : Nat) (xs : List P2), v = .slice a xs.length cap ∧ xs.length ≤ cap ∧ cap ≤ maxLen ∧ Row encP 2 W W.heap.size a xs ∧ ∀ x ∈ xs, BdP x := by
  obtain ⟨a, l, c, rfl⟩ := okWide_slice ht hv
  obtain ⟨fuel, hf⟩ := h
  exact read_p2s ht hC he hone h0 h1 (by simpa [Value.cells] using hf)
theorem openT_grid {t e : TypeId} {f0 f1 f2 : Field} {v : Value} {d : DataW H} {p : List MemPlace} (hs : P.underlying t = some (.struct #[f0, f1, f2])) (hone : oneCellFields P #[f0, f1, f2] = true) (hC : P.cellsOf t = 3)
    (h0 : P.underlying f0.type = some (.int .i64)) (h1 : P.underlying f1.type = some (.int .i64)) (h2 : P.underlying f2.type = some (.slice e)) (hCe : P.cellsOf e = 1) (he : P.underlying e = some (.int .i64))
    (hv : Value.okWide P W r b0 t v) (h : DataW.Trod enc P W base spare held t v d p) :
    ∃ (X Y : Int) (a : Option Addr) (cap : Nat) (cs : List Int), v = .agg #[.int .i64 X, .int .i64 Y, .slice a cs.length cap] ∧ Bd X ∧ Bd Y ∧ cs.length ≤ cap ∧ cap ≤ maxLen ∧ Row encI 1 W W.heap.size a cs ∧ ∀ x ∈ cs, Bd x := by
  obtain ⟨v0, v1, v2, y0, y1, y2, n, rfl, _, _, u0, u1, u2⟩ := Joins.open_agg3 hs hone hC hv h
  obtain ⟨X, rfl, bX⟩ := read_int h0 u0
  obtain ⟨Y, rfl, bY⟩ := read_int h1 u1
  obtain ⟨a, cap, cs, rfl, g⟩ := read_ints h2 hCe he u2
  exact ⟨X, Y, a, cap, cs, rfl, bX, bY, g⟩
end

theorem own : ownKnob Tryz.prog.godebug = none := by kernel_rfl
theorem laidOut : laidOutB Tryz.prog = true := by kernel_rfl

end Go.Proofs.YtccailcjclbhlaaGreat
/-! Several texts in one: -/
/-! A map from numbers to numbers that the call made: what it holds, look-up, store. Conditions: the key fits 64 bits. -/
namespace Go.Proofs.YtccailcjclbhlaaGreat
open Go.RowKit Go.Maps
set_option linter.unusedSimpArgs false
set_option linter.unusedVariables false
theorem int_law : Keyed Tryz.prog 3 := int_keyed Tryz.underlying3
theorem zero_int (w : World) : (zeroValue 3).run Tryz.prog w = .ok (.int .i64 0) w := by kernel_rfl
theorem wf_of_bd {x : Int} (h : Bd x) : (Lit.int .i64 x).wf = true := by
  simpa [Bd, Lit.wf, IntKind.min, IntKind.max, IntKind.signed, IntKind.bits] using h
theorem key_int {x : Int} (h : Bd x) : keyOf Tryz.prog 3 (.int .i64 x) = some (.int .i64 x) := keyOf_int_mk Tryz.underlying3 (wf_of_bd h)
/-- block b is a map of at most n entries that holds what f says -/
def IMap (w : World) (b n : Nat) (f : Int → Option Int) : Prop :=
  ∃ D : DataW Unit, w.ownsMap Tryz.prog 3 (plainElem Tryz.prog 3) b n D ∧ IsMap D ∧ ∀ x, D.atKey (.int .i64 x) (.lit (.int .i64 0)) = .lit (.int .i64 ((f x).getD 0)) ∧ Maps.has D (.int .i64 x) = (f x).isSome
def setM (f : Int → Option Int) (x y : Int) : Int → Option Int := fun z => if z = x then some y else f z
theorem IMap.made (w : World) : IMap (w.alloc (.map #[] 0)) w.heap.size 0 (fun _ => none) :=
  ⟨.map [], World.ownsMap_made _ _ _ _, isMap_empty, fun x => ⟨rfl, rfl⟩⟩
theorem IMap.lt {w : World} {b n : Nat} {f : Int → Option Int} (h : IMap w b n f) : b < w.heap.size := by
  obtain ⟨D, h, _⟩ := h; exact h.lt
theorem IMap.kept {w w' : World} {b n : Nat} {f : Int → Option Int} {row : Option Nat} (h : IMap w b n f) (hg : w.grownBy w' row) (hne : some b ≠ row) : IMap w' b n f := by
  obtain ⟨D, h, r⟩ := h; exact ⟨D, h.kept hg hne, r⟩
theorem IMap.alloc {w : World} {b n : Nat} {f : Int → Option Int} (h : IMap w b n f) (o : Obj) : IMap (w.alloc o) b n f := by
  obtain ⟨D, h, r⟩ := h; exact ⟨D, h.alloc o, r⟩
theorem IMap.drew {w : World} {b n : Nat} {f : Int → Option Int} (h : IMap w b n f) : IMap w.drew b n f := h
theorem IMap.block {w w' : World} {b n : Nat} {f : Int → Option Int} (h : IMap w b n f) (hb : w'.heap[b]? = w.heap[b]?) : IMap w' b n f := by
  obtain ⟨D, h1, r⟩ := h
  refine ⟨D, ?_, r⟩
  obtain ⟨es, clock, h2, h3⟩ := h1
  exact ⟨es, clock, hb.trans h2, h3⟩
theorem IMap.stays {w w' : World} {b n : Nat} {f : Int → Option Int} (h : IMap w b n f) (hb : Below w.heap.size w w') : IMap w' b n f := h.block (hb.block b h.lt)
theorem IMap.keep {S : Nat → Prop} {w w' : World} {b n : Nat} {f : Int → Option Int} (h : IMap w b n f) (hk : Keep S w w') (hs : ¬ S b) : IMap w' b n f := h.block (hk.block b h.lt hs)
section
variable {w : World} {ops : Array Oper} {rest : List Oper} {o : Oper} {a : Act} {Q : Exit → Act → World → Prop} {b n : Nat} {f : Int → Option Int}
theorem wpList_imap_ok (hg : o.guard = none) (m x : Operand) (t : TypeId) (hop : o.op = Op.lookup t m x true) (ht : Tryz.prog.underlying t = some (.map 3 3)) (h : IMap w b n f) (y : Int) (hy : Bd y) (hm : a.eval m = .map (some b)) (hx : a.eval x = .int .i64 y)
    (hK : wpList Tryz.prog ops Q rest (a.put o.dst (.tuple #[.int .i64 ((f y).getD 0), .bool (f y).isSome])) w) : wpList Tryz.prog ops Q (o :: rest) a w := by
  obtain ⟨D, hown, _, hf⟩ := h
  refine wpList_lookup_own_ok_int w hg m x t hop 3 3 .i64 int_law ht Tryz.underlying3 (zero_int w) b n D hm hown _ _ hx (key_int hy) ?_
  intro c hc _
  rw [(hf y).1] at hc
  simp only [DataW.lit.injEq, Lit.int.injEq, true_and] at hc
  rw [← hc, (hf y).2]
  exact hK
end
end Go.Proofs.YtccailcjclbhlaaGreat

/-! More on a map from numbers to numbers that the call made: look-up and store as runs, for regions that draw; the entries of a map's text. Conditions: the key fits 64 bits. -/
namespace Go.Proofs.YtccailcjclbhlaaGreat
open Go.RowKit Go.Maps
set_option linter.unusedSimpArgs false
set_option linter.unusedVariables false
section
variable {w : World} {b n : Nat} {f : Int → Option Int}
theorem IMap.mono (h : IMap w b n f) {m : Nat} (hm : n ≤ m) : IMap w b m f := by obtain ⟨D, h, r⟩ := h; exact ⟨D, h.mono hm, r⟩
theorem IMap.drewN (h : IMap w b n f) (m : Nat) : IMap (w.drewN m) b n f := by
  induction m with
  | zero => exact h
  | succ m ih => exact ih.drew
theorem IMap.look (h : IMap w b n f) (t : TypeId) (ht : Tryz.prog.underlying t = some (.map 3 3)) {x : Int} (hx : Bd x) :
    (Instr.lookup t (.map (some b)) (.int .i64 x) false).run Tryz.prog w = .ok (.int .i64 ((f x).getD 0)) w := by
  obtain ⟨D, hown, hm, hf⟩ := h
  obtain ⟨c, hrun, hat, _⟩ := hown.lookup_int int_law ht Tryz.underlying3 (zero_int w) (key_int hx)
  have hc : c = (f x).getD 0 := by
    have h1 := (hf x).1
    rw [hat] at h1
    simpa using h1
  rw [← hc]
  exact hrun
theorem IMap.update (h : IMap w b n f) (t : TypeId) (ht : Tryz.prog.underlying t = some (.map 3 3)) (hn : n ≤ 1000000000) {x y : Int} (hx : Bd x) (hy : Bd y) :
    ∃ w', (Instr.mapUpdate t (.map (some b)) (.int .i64 x) (.int .i64 y)).run Tryz.prog w = .ok () w' ∧ IMap w' b (n + 1) (setM f x y) ∧ w.grownBy w' (some b) := by
  obtain ⟨D, hown, hm2, hf⟩ := h
  obtain ⟨w', hrun, h1, h2⟩ := hown.update int_law ht (by unfold maxLen; omega) (key_int hx) (plainElem_int Tryz.underlying3 (wf_of_bd hy))
  refine ⟨w', hrun, ⟨_, h1, hm2.put _ _, fun u => ?_⟩, h2⟩
  have hkl : WideAt.IsKeyLit (.int .i64 x) := by first | trivial | exact ⟨_, _, rfl⟩ | simp [WideAt.IsKeyLit]
  unfold setM
  by_cases hu : u = x
  · subst hu
    rw [atKey_put_same hm2 hkl, has_put_same hm2 hkl]
    simp
  · have hne : (Lit.int IntKind.i64 u) ≠ Lit.int IntKind.i64 x := by simpa using hu
    rw [atKey_put_other hne, has_put_other hne, (hf u).1, (hf u).2, if_neg hu]
    exact ⟨rfl, rfl⟩
end
end Go.Proofs.YtccailcjclbhlaaGreat
