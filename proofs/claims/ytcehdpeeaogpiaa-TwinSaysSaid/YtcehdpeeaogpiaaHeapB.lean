/-
  Several texts in one:
  A heap in a list: one more sifted up, the first taken and the last sifted down. No program here.
  heap.Less: the order of what waits. Condition: none.
  A heap in memory: an object of two cells, its slice the call's own. No condition.
-/
import Derived.Test.YtcehdpeeaogpiaaPlainB
import Derived.BigQuiet
import Derived.Deep.QuietTactic
import Derived.WalkSpells
import Derived.WalkLawsBesides
import Derived.Test.YtcehdpeeaogpiaaBase
import Derived.Deep.AppendLies
/-! A heap in a list: one more sifted up, the first taken and the last sifted down. No program here. -/
namespace Go.Proofs.Ytcehdpeeaogpiaa
set_option linter.unusedVariables false

section
variable {α : Type}
/-- two exchanged -/
def swf (f : Nat → α) (i j : Nat) : Nat → α := upz (upz f i (f j)) j (f i)
theorem swf_left (f : Nat → α) {i j : Nat} : swf f i j i = f j := by
  unfold swf upz
  by_cases h : i = j
  · subst h; simp
  · simp [h]
theorem swf_right (f : Nat → α) (i j : Nat) : swf f i j j = f i := by simp [swf, upz]
theorem swf_other (f : Nat → α) {i j k : Nat} (h1 : k ≠ i) (h2 : k ≠ j) : swf f i j k = f k := by simp [swf, upz, h1, h2]
theorem swf_perm (f : Nat → α) {n i j : Nat} (hi : i < n) (hj : j < n) : (RW n (swf f i j)).Perm (RW n f) := by
  have h1 : i < (RW n f).length := by rw [rw_len]; exact hi
  have h2 : j < (RW n f).length := by rw [rw_len]; exact hj
  have h := List.set_set_perm h1 h2
  rw [rw_get, rw_get, rw_set, rw_set] at h
  exact h
/-- an order: what is not less -/
structure Ord (lt : α → α → Bool) : Prop where
  irr : ∀ a, lt a a = false
  asym : ∀ a b, lt a b = true → lt b a = false
  trans : ∀ a b c, lt b a = false → lt c b = false → lt c a = false
variable {lt : α → α → Bool}
/-- none is less than the one above it -/
def HeapOK (lt : α → α → Bool) (n : Nat) (f : Nat → α) : Prop := ∀ i, 0 < i → i < n → lt (f i) (f ((i - 1) / 2)) = false
theorem heap_top (ho : Ord lt) {n : Nat} {f : Nat → α} (h : HeapOK lt n f) (i : Nat) (hi : i < n) : lt (f i) (f 0) = false := by
  induction i using Nat.strongRecOn with
  | ind i ih =>
    by_cases h0 : i = 0
    · subst h0; exact ho.irr _
    · exact ho.trans _ _ _ (ih ((i - 1) / 2) (by omega) (by omega)) (h i (by omega) hi)
def siftUp (lt : α → α → Bool) (f : Nat → α) (i : Nat) : Nat → α := if h : 0 < i then if lt (f i) (f ((i - 1) / 2)) = true then siftUp lt (swf f i ((i - 1) / 2)) ((i - 1) / 2) else f else f
termination_by i
decreasing_by omega
theorem siftUp_go {f : Nat → α} {i : Nat} (h : 0 < i) (hl : lt (f i) (f ((i - 1) / 2)) = true) : siftUp lt f i = siftUp lt (swf f i ((i - 1) / 2)) ((i - 1) / 2) := by rw [siftUp, dif_pos h, if_pos hl]
theorem siftUp_stop {f : Nat → α} {i : Nat} (h : 0 < i) (hl : lt (f i) (f ((i - 1) / 2)) = false) : siftUp lt f i = f := by rw [siftUp, dif_pos h, if_neg (by simp [hl])]
theorem siftUp_top {f : Nat → α} : siftUp lt f 0 = f := by rw [siftUp, dif_neg (by omega)]
/-- all in order but i and the one above it; those below i are not less than the one above i -/
structure UpInv (lt : α → α → Bool) (n : Nat) (f : Nat → α) (i : Nat) : Prop where
  rest : ∀ j, 0 < j → j < n → j ≠ i → lt (f j) (f ((j - 1) / 2)) = false
  kids : ∀ j, 0 < j → j < n → (j - 1) / 2 = i → 0 < i → lt (f j) (f ((i - 1) / 2)) = false
theorem siftUp_ok (ho : Ord lt) {n : Nat} : ∀ (i : Nat) (f : Nat → α), i < n → UpInv lt n f i → HeapOK lt n (siftUp lt f i) ∧ (RW n (siftUp lt f i)).Perm (RW n f) := by
  intro i
  induction i using Nat.strongRecOn with
  | ind i ih =>
    intro f hi h
    by_cases h0 : i = 0
    · subst h0
      rw [siftUp_top]
      exact ⟨fun j hj hjn => h.rest j hj hjn (by omega), List.Perm.refl _⟩
    · have hp : (i - 1) / 2 < i := by omega
      cases hl : lt (f i) (f ((i - 1) / 2)) with
      | false =>
        rw [siftUp_stop (by omega) hl]
        refine ⟨fun j hj hjn => ?_, List.Perm.refl _⟩
        by_cases e : j = i
        · subst e; exact hl
        · exact h.rest j hj hjn e
      | true =>
        rw [siftUp_go (by omega) hl]
        have hne : (i - 1) / 2 ≠ i := by omega
        have inv : UpInv lt n (swf f i ((i - 1) / 2)) ((i - 1) / 2) := by
          constructor
          · intro j hj hjn hjk
            by_cases e : j = i
            · subst e
              rw [swf_left, swf_right]
              exact ho.asym _ _ hl
            · rw [swf_other _ e hjk]
              by_cases e1 : (j - 1) / 2 = i
              · rw [e1, swf_left]
                exact h.kids j hj hjn e1 (by omega)
              · by_cases e2 : (j - 1) / 2 = (i - 1) / 2
                · rw [e2, swf_right]
                  have h1 := h.rest j hj hjn e
                  rw [e2] at h1
                  exact ho.trans _ _ _ (ho.asym _ _ hl) h1
                · rw [swf_other _ e1 e2]
                  exact h.rest j hj hjn e
          · intro j hj hjn hjp hk0
            have hpp : ((i - 1) / 2 - 1) / 2 ≠ i ∧ ((i - 1) / 2 - 1) / 2 ≠ (i - 1) / 2 := by omega
            rw [swf_other f hpp.1 hpp.2]
            have hup := h.rest ((i - 1) / 2) hk0 (by omega) hne
            by_cases e : j = i
            · subst e
              rw [swf_left]
              exact hup
            · have e2 : j ≠ (i - 1) / 2 := by omega
              rw [swf_other _ e e2]
              have h1 := h.rest j hj hjn e
              rw [hjp] at h1
              exact ho.trans _ _ _ hup h1
        obtain ⟨r1, r2⟩ := ih _ hp _ (by omega) inv
        exact ⟨r1, r2.trans (swf_perm f hi (by omega))⟩
/-- one more at the end, sifted up -/
theorem push_ok (ho : Ord lt) {n : Nat} {f : Nat → α} (h : HeapOK lt n f) (x : α) : HeapOK lt (n + 1) (siftUp lt (upz f n x) n) ∧ (RW (n + 1) (siftUp lt (upz f n x) n)).Perm (RW n f ++ [x]) := by
  have inv : UpInv lt (n + 1) (upz f n x) n := by
    constructor
    · intro j hj hjn hjk
      rw [upz_other _ _ hjk, upz_other _ _ (show (j - 1) / 2 ≠ n by omega)]
      exact h j hj (by omega)
    · intro j hj hjn hjp _
      omega
  obtain ⟨r1, r2⟩ := siftUp_ok ho n _ (by omega) inv
  refine ⟨r1, r2.trans ?_⟩
  have e : RW (n + 1) (upz f n x) = RW n f ++ [x] := by
    unfold RW
    rw [List.range_succ, List.map_append]
    congr 1
    · apply List.map_congr_left
      intro v hv
      exact upz_other _ _ (by have := List.mem_range.1 hv; omega)
    · simp [upz]
  rw [e]
/-- the lesser of the two below -/
def kid (lt : α → α → Bool) (n : Nat) (f : Nat → α) (i : Nat) : Nat := if 2 * i + 1 + 1 < n ∧ lt (f (2 * i + 1 + 1)) (f (2 * i + 1)) = true then 2 * i + 1 + 1 else 2 * i + 1
theorem kid_is (n : Nat) (f : Nat → α) (i : Nat) (h : 2 * i + 1 < n) : kid lt n f i < n ∧ (kid lt n f i - 1) / 2 = i ∧ i < kid lt n f i := by
  unfold kid
  split <;> omega
theorem kid_least (ho : Ord lt) (n : Nat) (f : Nat → α) (i j : Nat) (hj : 0 < j) (hjn : j < n) (hp : (j - 1) / 2 = i) : lt (f j) (f (kid lt n f i)) = false := by
  unfold kid
  have hc : j = 2 * i + 1 ∨ j = 2 * i + 1 + 1 := by omega
  split
  · rename_i h
    rcases hc with rfl | rfl
    · exact ho.asym _ _ h.2
    · exact ho.irr _
  · rename_i h
    rcases hc with rfl | rfl
    · exact ho.irr _
    · cases hl : lt (f (2 * i + 1 + 1)) (f (2 * i + 1)) with
      | false => rfl
      | true => exact absurd ⟨hjn, hl⟩ h
def siftDown (lt : α → α → Bool) (n : Nat) (f : Nat → α) (i : Nat) : Nat → α := if h : 2 * i + 1 < n then if lt (f (kid lt n f i)) (f i) = true then siftDown lt n (swf f i (kid lt n f i)) (kid lt n f i) else f else f
termination_by n - i
decreasing_by have := kid_is (lt := lt) n f i h; omega
theorem siftDown_go {n : Nat} {f : Nat → α} {i : Nat} (h : 2 * i + 1 < n) (hl : lt (f (kid lt n f i)) (f i) = true) : siftDown lt n f i = siftDown lt n (swf f i (kid lt n f i)) (kid lt n f i) := by rw [siftDown, dif_pos h, if_pos hl]
theorem siftDown_stop {n : Nat} {f : Nat → α} {i : Nat} (h : 2 * i + 1 < n) (hl : lt (f (kid lt n f i)) (f i) = false) : siftDown lt n f i = f := by rw [siftDown, dif_pos h, if_neg (by simp [hl])]
theorem siftDown_end {n : Nat} {f : Nat → α} {i : Nat} (h : ¬ 2 * i + 1 < n) : siftDown lt n f i = f := by rw [siftDown, dif_neg h]
structure DownInv (lt : α → α → Bool) (n : Nat) (f : Nat → α) (i : Nat) : Prop where
  rest : ∀ j, 0 < j → j < n → (j - 1) / 2 ≠ i → lt (f j) (f ((j - 1) / 2)) = false
  kids : ∀ j, 0 < j → j < n → (j - 1) / 2 = i → 0 < i → lt (f j) (f ((i - 1) / 2)) = false
theorem siftDown_ok (ho : Ord lt) {n : Nat} : ∀ (d i : Nat) (f : Nat → α), n - i = d → i < n → DownInv lt n f i → HeapOK lt n (siftDown lt n f i) ∧ (RW n (siftDown lt n f i)).Perm (RW n f) := by
  intro d
  induction d using Nat.strongRecOn with
  | ind d ih =>
    intro i f hd hi h
    by_cases h0 : 2 * i + 1 < n
    · obtain ⟨k1, k2, k3⟩ := kid_is (lt := lt) n f i h0
      have kl := kid_least ho n f i
      obtain ⟨k, hk⟩ : ∃ k, k = kid lt n f i := ⟨_, rfl⟩
      rw [← hk] at k1 k2 k3 kl
      cases hl : lt (f k) (f i) with
      | false =>
        rw [siftDown_stop h0 (by rw [← hk]; exact hl)]
        refine ⟨fun j hj hjn => ?_, List.Perm.refl _⟩
        by_cases e : (j - 1) / 2 = i
        · rw [e]
          exact ho.trans _ _ _ hl (kl j hj hjn e)
        · exact h.rest j hj hjn e
      | true =>
        rw [siftDown_go h0 (by rw [← hk]; exact hl), ← hk]
        have hne : k ≠ i := by omega
        have inv : DownInv lt n (swf f i k) k := by
          constructor
          · intro j hj hjn hjp
            by_cases e : (j - 1) / 2 = i
            · rw [e, swf_left]
              by_cases e2 : j = k
              · subst e2; rw [swf_right]; exact ho.asym _ _ hl
              · rw [swf_other _ (by omega) e2]
                exact kl j hj hjn e
            · rw [swf_other _ e hjp]
              by_cases e2 : j = i
              · subst e2
                rw [swf_left]
                exact h.kids k (by omega) k1 k2 (by omega)
              · by_cases e3 : j = k
                · subst e3; exact absurd k2 e
                · rw [swf_other _ e2 e3]
                  exact h.rest j hj hjn e
          · intro j hj hjn hjp hk0
            rw [k2, swf_left]
            have e1 : j ≠ i := by omega
            have e2 : j ≠ k := by omega
            rw [swf_other _ e1 e2]
            have := h.rest j hj hjn (by omega)
            rw [hjp] at this
            exact this
        obtain ⟨r1, r2⟩ := ih (n - k) (by omega) k _ rfl k1 inv
        exact ⟨r1, r2.trans (swf_perm f hi k1)⟩
    · rw [siftDown_end h0]
      refine ⟨fun j hj hjn => ?_, List.Perm.refl _⟩
      exact h.rest j hj hjn (by omega)
/-- the first taken, the last put in its place and sifted down -/
theorem pop_ok (ho : Ord lt) {n : Nat} {f : Nat → α} (h : HeapOK lt (n + 1) f) : HeapOK lt n (siftDown lt n (upz f 0 (f n)) 0) ∧ (f 0 :: RW n (siftDown lt n (upz f 0 (f n)) 0)).Perm (RW (n + 1) f) := by
  by_cases hn : n = 0
  · subst hn
    refine ⟨fun i h1 h2 => by omega, ?_⟩
    simp [RW]
  · have inv : DownInv lt n (upz f 0 (f n)) 0 := by
      constructor
      · intro j hj hjn hjp
        rw [upz_other _ _ (show j ≠ 0 by omega), upz_other _ _ hjp]
        exact h j hj (by omega)
      · intro j hj hjn hjp h0
        omega
    obtain ⟨r1, r2⟩ := siftDown_ok ho (n - 0) 0 _ rfl (by omega) inv
    refine ⟨r1, (r2.cons _).trans ?_⟩
    have e1 : RW (n + 1) f = f 0 :: (RW n f).tail ++ [f n] := by
      have e0 : RW (n + 1) f = RW n f ++ [f n] := by unfold RW; rw [List.range_succ, List.map_append]; rfl
      have e3 : RW n f = f 0 :: (RW n f).tail := by
        obtain ⟨m, rfl⟩ : ∃ m, n = m + 1 := ⟨n - 1, by omega⟩
        simp [RW, List.range_succ_eq_map]
      rw [e0]
      exact congrArg (· ++ [f n]) e3
    have e2 : RW n (upz f 0 (f n)) = f n :: (RW n f).tail := by
      obtain ⟨m, rfl⟩ : ∃ m, n = m + 1 := ⟨n - 1, by omega⟩
      rw [← rw_set]
      simp [RW, List.range_succ_eq_map]
    rw [e1, e2]
    simp only [List.cons_append]
    exact List.Perm.cons _ (List.perm_append_singleton _ _).symm
end
end Go.Proofs.Ytcehdpeeaogpiaa

/-! heap.Less: the order of what waits. Condition: none. -/
namespace Go.Proofs.Ytcehdpeeaogpiaa
open Go.RowKit
set_option linter.unusedSimpArgs false
set_option linter.unusedVariables false

/-- by the first number, then by the second -/
def popLt (p q : P2) : Bool := decide (p.a < q.a) || (decide (p.a = q.a) && decide (p.b < q.b))
theorem popLt_ord : Ord popLt := by
  constructor
  · intro a; simp [popLt]
  · intro a b h
    simp only [popLt, Bool.or_eq_true, Bool.and_eq_true, decide_eq_true_eq, Bool.or_eq_false_iff, Bool.and_eq_false_iff, decide_eq_false_iff_not] at *
    omega
  · intro a b c h1 h2
    simp only [popLt, Bool.or_eq_true, Bool.and_eq_true, decide_eq_true_eq, Bool.or_eq_false_iff, Bool.and_eq_false_iff, decide_eq_false_iff_not] at *
    omega
set_option maxHeartbeats 2000000 in
theorem less_any (p q : P2) (w : World) :
    Calls Try.prog 168 #[.agg #[.int .i64 p.a, .int .i64 p.b], .agg #[.int .i64 q.a, .int .i64 q.b]] w fun e w' => e = .returned (.bool (popLt p q)) ∧ Below w.heap.size w w' := by
  go_enter Try.func168, Try.ntmps168
  by_cases h1 : p.a < q.a
  · have e1 : popLt p q = true := by simp [popLt, h1]
    rw [e1]
    go_wp2
    go_ret
    exact ⟨rfl, (by repeat (first | with_reducible exact Below.refl _ _ | with_reducible assumption | with_reducible refine up_drewN ?_ | with_reducible refine up_drew ?_ | (with_reducible refine up_alloc ?_ ?_; rotate_left; (first | omega | (simp <;> omega) | simp)) | (with_reducible refine up_set ?_ ?_; rotate_left; (first | omega | (simp <;> omega) | simp)) | (with_reducible refine Below.trans ?_ (Below.mono (by with_reducible assumption) ?_); rotate_left; (first | omega | (simp <;> omega) | simp))))⟩
  · by_cases h2 : p.a = q.a
    · have e1 : popLt p q = decide (p.b < q.b) := by simp [popLt, h2]
      rw [e1]
      have h3 : (p.a < q.a) = False := by simp [h1]
      go_wp2
      go_ret
      exact ⟨rfl, (by repeat (first | with_reducible exact Below.refl _ _ | with_reducible assumption | with_reducible refine up_drewN ?_ | with_reducible refine up_drew ?_ | (with_reducible refine up_alloc ?_ ?_; rotate_left; (first | omega | (simp <;> omega) | simp)) | (with_reducible refine up_set ?_ ?_; rotate_left; (first | omega | (simp <;> omega) | simp)) | (with_reducible refine Below.trans ?_ (Below.mono (by with_reducible assumption) ?_); rotate_left; (first | omega | (simp <;> omega) | simp))))⟩
    · have e1 : popLt p q = false := by simp [popLt, h1, h2]
      rw [e1]
      go_wp2
      go_ret
      exact ⟨rfl, (by repeat (first | with_reducible exact Below.refl _ _ | with_reducible assumption | with_reducible refine up_drewN ?_ | with_reducible refine up_drew ?_ | (with_reducible refine up_alloc ?_ ?_; rotate_left; (first | omega | (simp <;> omega) | simp)) | (with_reducible refine up_set ?_ ?_; rotate_left; (first | omega | (simp <;> omega) | simp)) | (with_reducible refine Below.trans ?_ (Below.mono (by with_reducible assumption) ?_); rotate_left; (first | omega | (simp <;> omega) | simp))))⟩
end Go.Proofs.Ytcehdpeeaogpiaa

/-! A heap in memory: an object of two cells, its slice the call's own. No condition. -/
namespace Go.Proofs.Ytcehdpeeaogpiaa
open Go.RowKit
set_option linter.unusedSimpArgs false
set_option linter.unusedVariables false
theorem info_pop : (Try.prog.info? 205).map (fun i => (i.zero, i.size, i.bytes)) = some (some (.agg #[.int .i64 0, .int .i64 0]), 2, 16) := by kernel_rfl
theorem Own.getP {e : TypeId} {w : World} {base : Nat} {xs : List P2} {g n c : Nat} (h : Own encP 2 e w base (.slice (some ⟨g, 0, none⟩) n c) xs) (i : Nat) (hi : i < xs.length) :
    w.cell? ⟨g, i * 2, none⟩ = some (.int .i64 xs[i].a) ∧ w.cell? ⟨g, i * 2 + 1, none⟩ = some (.int .i64 xs[i].b) :=
  ⟨by simpa using h.get lenP i hi 0 _ rfl, h.get lenP i hi 1 _ rfl⟩
theorem Own.putP {e : TypeId} {w : World} {base : Nat} {xs : List P2} {g n c : Nat} (h : Own encP 2 e w base (.slice (some ⟨g, 0, none⟩) n c) xs) (i : Nat) (hi : i < xs.length) (p : P2) :
    Own encP 2 e ((w.setCell ⟨g, i * 2, none⟩ (.int .i64 p.a)).setCell ⟨g, i * 2 + 1, none⟩ (.int .i64 p.b)) base (.slice (some ⟨g, 0, none⟩) n c) (xs.set i p) := by
  have h1 := h.put lenP i hi 0 (by omega) (.int .i64 p.a) ⟨p.a, xs[i].b⟩ rfl
  have h2 := h1.put lenP i (by simpa using hi) 1 (by omega) (.int .i64 p.b) p (by simp [encP])
  rw [List.set_set] at h2
  simpa using h2
theorem rw_push {α : Type} (n : Nat) (f : Nat → α) (x : α) : RW (n + 1) (upz f n x) = RW n f ++ [x] := by
  unfold RW
  rw [List.range_succ, List.map_append]
  congr 1
  · apply List.map_congr_left
    intro v hv
    exact upz_other _ _ (by have := List.mem_range.1 hv; omega)
  · simp [upz]
/-- the heap at g holds the n first of f; lf says which is less -/
structure HeapAt (w : World) (base g : Nat) (lf v : Value) (n : Nat) (f : Nat → P2) : Prop where
  bg : base ≤ g
  lt : g < w.heap.size
  c0 : w.cell? ⟨g, 0, none⟩ = some lf
  c1 : w.cell? ⟨g, 1, none⟩ = some v
  f1 : w.frozen? ⟨g, 1, none⟩ = false
  own : Own encP 2 205 w base v (RW n f)
  ap : v.ownBlock ≠ some g
theorem HeapAt.keep {S : Nat → Prop} {w w' : World} {base g n : Nat} {lf v : Value} {f : Nat → P2} (h : HeapAt w base g lf v n f) (k : Keep S w w') (hg : ¬ S g) (hv : ∀ k, v.ownBlock = some k → ¬ S k) : HeapAt w' base g lf v n f :=
  ⟨h.bg, Nat.lt_of_lt_of_le h.lt k.size, k.cu h.c0 hg, k.cu h.c1 hg, (k.frozen (p := ⟨g, 1, none⟩) h.lt hg).trans h.f1, k.own h.own hv, h.ap⟩
theorem HeapAt.stays {w w' : World} {base g n : Nat} {lf v : Value} {f : Nat → P2} (h : HeapAt w base g lf v n f) (k : Below w.heap.size w w') : HeapAt w' base g lf v n f :=
  h.keep (Keep.new (S := fun _ => False) k) (fun h => h) (fun _ _ h => h)
theorem HeapAt.drew {w : World} {base g n : Nat} {lf v : Value} {f : Nat → P2} (h : HeapAt w base g lf v n f) : HeapAt w.drew base g lf v n f := ⟨h.bg, h.lt, h.c0, h.c1, h.f1, h.own.drew, h.ap⟩
theorem HeapAt.drewN {w : World} {base g n : Nat} {lf v : Value} {f : Nat → P2} (h : HeapAt w base g lf v n f) (m : Nat) : HeapAt (w.drewN m) base g lf v n f := by
  induction m with
  | zero => exact h
  | succ m ih => exact ih.drew
theorem HeapAt.alloc {w : World} {base g n : Nat} {lf v : Value} {f : Nat → P2} (h : HeapAt w base g lf v n f) (o : Obj) : HeapAt (w.alloc o) base g lf v n f := h.stays ((Below.refl _ _).alloc (Nat.le_refl _) o)
/-- two exchanged -/
theorem HeapAt.swap {w : World} {base g n gs m c : Nat} {lf : Value} {f : Nat → P2} (h : HeapAt w base g lf (.slice (some ⟨gs, 0, none⟩) m c) n f) {i k : Nat} (hi : i < n) (hk : k < n) :
    HeapAt ((((w.setCell ⟨gs, i * 2, none⟩ (.int .i64 (f k).a)).setCell ⟨gs, i * 2 + 1, none⟩ (.int .i64 (f k).b)).setCell ⟨gs, k * 2, none⟩ (.int .i64 (f i).a)).setCell ⟨gs, k * 2 + 1, none⟩ (.int .i64 (f i).b)) base g lf (.slice (some ⟨gs, 0, none⟩) m c) n (swf f i k) := by
  have hne : gs ≠ g := fun e => h.ap (by rw [e]; rfl)
  have h1 := h.own.putP i (by rw [rw_len]; exact hi) (f k)
  have h2 := h1.putP k (by rw [List.length_set, rw_len]; exact hk) (f i)
  rw [rw_set, rw_set] at h2
  have kp := hide ((((hide (Keep.refl (fun k => k = gs) w)).out.setCell (p := ⟨gs, i * 2, none⟩) (.inl rfl) (.int .i64 (f k).a)).setCell (p := ⟨gs, i * 2 + 1, none⟩) (.inl rfl) (.int .i64 (f k).b)).setCell (p := ⟨gs, k * 2, none⟩) (.inl rfl) (.int .i64 (f i).a) |>.setCell (p := ⟨gs, k * 2 + 1, none⟩) (.inl rfl) (.int .i64 (f i).b))
  replace kp := kp.out
  have hng : ¬ (g = gs) := fun e => hne e.symm
  exact ⟨h.bg, Nat.lt_of_lt_of_le h.lt kp.size, kp.cu h.c0 hng, kp.cu h.c1 hng, (kp.frozen (p := ⟨g, 1, none⟩) h.lt hng).trans h.f1, h2, h.ap⟩
end Go.Proofs.Ytcehdpeeaogpiaa
