/-
  Lists that read as functions of the place. No program here.
-/
import Derived.Test.YtdpbkhempgghaaaBell
import Derived.Test.YtdpbkhempgghaaaMk
namespace Go.Proofs.Ytdpbkhempgghaaa
open Go.RowKit

def LI (n : Nat) (f : Nat → Int) : List Int := (List.range n).map f
theorem li_len (n : Nat) (f : Nat → Int) : (LI n f).length = n := by simp [LI]
theorem li_get (n : Nat) (f : Nat → Int) (i : Nat) (h : i < (LI n f).length) : (LI n f)[i] = f i := by simp [LI]
theorem li_succ (k : Nat) (f : Nat → Int) : LI (k + 1) f = LI k f ++ [f k] := by simp [LI, List.range_succ]
theorem li_set (n : Nat) (f : Nat → Int) (i : Nat) (x : Int) : (LI n f).set i x = LI n (upz f i x) := by
  apply List.ext_getElem
  · simp [LI]
  · intro j h1 h2
    rw [li_get, List.getElem_set]
    by_cases e : i = j
    · subst e; simp [upz]
    · rw [if_neg e, li_get, upz_other _ _ (fun h => e h.symm)]
theorem li_rep (n : Nat) (x : Int) : List.replicate n x = LI n (fun _ => x) := by
  apply List.ext_getElem
  · simp [LI]
  · intro i h1 h2; simp [LI]
theorem li_congr {n : Nat} {f g : Nat → Int} (h : ∀ v, v < n → f v = g v) : LI n f = LI n g := by
  unfold LI
  apply List.map_congr_left
  intro v hv
  exact h v (List.mem_range.1 hv)
theorem li_inj {n : Nat} {f g : Nat → Int} (h : LI n f = LI n g) (v : Nat) (hv : v < n) : f v = g v := by
  have e : (LI n f)[v]'(by rw [li_len]; exact hv) = (LI n g)[v]'(by rw [li_len]; exact hv) := by simp [h]
  rw [li_get, li_get] at e
  exact e
theorem li_eq {n : Nat} {f g : Nat → Int} : LI n f = LI n g ↔ ∀ v, v < n → f v = g v := ⟨li_inj, li_congr⟩
/-- the first k written anew -/
def first {α : Type} (k : Nat) (f g : Nat → α) : Nat → α := fun v => if v < k then f v else g v
theorem first_zero {α : Type} (f g : Nat → α) : first 0 f g = g := by funext v; simp [first]
theorem first_step {α : Type} (k : Nat) (f g : Nat → α) : upz (first k f g) k (f k) = first (k + 1) f g := by
  funext v
  simp only [upz, first]
  by_cases h : v = k
  · subst h; simp
  · by_cases h2 : v < k
    · rw [if_neg h, if_pos h2, if_pos (by omega)]
    · rw [if_neg h, if_neg h2, if_neg (by omega)]
theorem first_all (n : Nat) (f g : Nat → Int) : LI n (first n f g) = LI n f := li_congr (fun v hv => by simp [first, hv])

theorem Own.atI {e : TypeId} {w : World} {base g n c : Nat} {f : Nat → Int} (h : Own encI 1 e w base (.slice (some ⟨g, 0, none⟩) n c) (LI n f)) (i : Nat) (hi : i < n) : w.cell? ⟨g, i, none⟩ = some (.int .i64 (f i)) := by
  have := h.getI i (by rw [li_len]; exact hi)
  rw [li_get] at this
  exact this
theorem Own.setI {e : TypeId} {w : World} {base g n c : Nat} {f : Nat → Int} (h : Own encI 1 e w base (.slice (some ⟨g, 0, none⟩) n c) (LI n f)) (i : Nat) (hi : i < n) (x : Int) : Own encI 1 e (w.setCell ⟨g, i, none⟩ (.int .i64 x)) base (.slice (some ⟨g, 0, none⟩) n c) (LI n (upz f i x)) := by
  have := h.putI i (by rw [li_len]; exact hi) x
  rw [li_set] at this
  exact this
theorem Row.atI {w : World} {B : Nat} {a : Option Addr} {n : Nat} {f : Nat → Int} (h : Row encI 1 w B a (LI n f)) (i : Nat) (hi : i < n) : ∃ b o, a = some ⟨b, o, none⟩ ∧ b < B ∧ w.cell? ⟨b, o + i, none⟩ = some (.int .i64 (f i)) := by
  obtain ⟨b, o, h1, h2, h3⟩ := h.int i (by rw [li_len]; exact hi)
  rw [li_get] at h3
  exact ⟨b, o, h1, h2, h3⟩
/-- an own slice with at least one element stands in a block -/
theorem Own.blockI {α : Type} {enc : α → List Value} {sz : Nat} {e : TypeId} {w : World} {base : Nat} {a : Option Addr} {n c : Nat} {xs : List α} (h : Own enc sz e w base (.slice a n c) xs) (hn : 0 < n) : ∃ g, a = some ⟨g, 0, none⟩ ∧ base ≤ g ∧ g < w.heap.size := by
  rcases h.form with ⟨h1, h2⟩ | ⟨g, cap, h1, h2, h3, _⟩
  · simp only [Value.slice.injEq] at h1; omega
  · simp only [Value.slice.injEq] at h1; exact ⟨g, h1.1, h2, h3⟩

/-- a right net's edges, by places -/
def nes (es : List Ed) : List NE := es.map fun e => ⟨e.u.toNat, e.v.toNat, e.c⟩
theorem nes_take (es : List Ed) (k : Nat) (h : k < es.length) : nes (es.take (k + 1)) = nes (es.take k) ++ [⟨es[k].u.toNat, es[k].v.toNat, es[k].c⟩] := by
  unfold nes
  rw [List.take_succ_eq_append_getElem h, List.map_append]
  rfl
theorem nes_mem {es : List Ed} {e : NE} (h : e ∈ nes es) : ∃ x ∈ es, e = ⟨x.u.toNat, x.v.toNat, x.c⟩ := by
  obtain ⟨x, h1, h2⟩ := List.mem_map.1 h
  exact ⟨x, h1, h2.symm⟩
def RightK (K : Int) (n : Nat) (es : List Ed) : Prop := ∀ e ∈ es, 0 ≤ e.u ∧ e.u < n ∧ 0 ≤ e.v ∧ e.v < n ∧ -K ≤ e.c ∧ e.c ≤ K
def Right (n : Nat) (es : List Ed) : Prop := RightK 10000 n es
theorem nes_rightK {K : Int} {n : Nat} {es : List Ed} (h : RightK K n es) : ∀ e ∈ nes es, e.u < n ∧ e.v < n := by
  intro e he
  obtain ⟨x, hx, rfl⟩ := nes_mem he
  have := h x hx
  simp only
  omega
theorem nes_right {n : Nat} {es : List Ed} (h : Right n es) : ∀ e ∈ nes es, e.u < n ∧ e.v < n := nes_rightK h
/-- an edge of a right net, by places -/
theorem right_edgeK {K : Int} {n : Nat} {es : List Ed} (h : RightK K n es) (k : Nat) (hk : k < es.length) : ∃ u v : Nat, es[k].u = (u : Int) ∧ es[k].v = (v : Int) ∧ u < n ∧ v < n ∧ -K ≤ es[k].c ∧ es[k].c ≤ K ∧ nes (es.take (k + 1)) = nes (es.take k) ++ [⟨u, v, es[k].c⟩] := by
  have h1 := h es[k] (List.getElem_mem hk)
  obtain ⟨u, hu⟩ := Int.eq_ofNat_of_zero_le h1.1
  obtain ⟨v, hv⟩ := Int.eq_ofNat_of_zero_le h1.2.2.1
  refine ⟨u, v, hu, hv, by omega, by omega, by omega, by omega, ?_⟩
  rw [nes_take es k hk, hu, hv]
  rfl
theorem right_edge {n : Nat} {es : List Ed} (h : Right n es) (k : Nat) (hk : k < es.length) : ∃ u v : Nat, es[k].u = (u : Int) ∧ es[k].v = (v : Int) ∧ u < n ∧ v < n ∧ -10000 ≤ es[k].c ∧ es[k].c ≤ 10000 ∧ nes (es.take (k + 1)) = nes (es.take k) ++ [⟨u, v, es[k].c⟩] := right_edgeK h k hk
/-- bounds of costs -/
def Low (K : Int) (f : Nat → Int) : Prop := ∀ v, -K ≤ f v ∧ f v ≤ FAR
theorem Low.mono {K L : Int} {f : Nat → Int} (h : Low K f) (hl : K ≤ L) : Low L f := fun v => ⟨by have := (h v).1; omega, (h v).2⟩
theorem bstep_low {K : Int} {s : BS} {e : NE} (h : Low K s.d) (hc : -10000 ≤ e.c) : Low (K + 10000) (bstep s e).d := by
  intro v
  refine ⟨?_, Int.le_trans (bstep_le s e v) (h v).2⟩
  unfold bstep
  have h1 := (h v).1
  have h2 := (h e.u).1
  split
  · by_cases hv : v = e.v
    · subst hv; simp only [upz_same]; omega
    · simp only [upz_other _ _ hv]; omega
  · omega
theorem spreadE_low {K : Int} {d nx : Nat → Int} {e : NE} (h : Low K d) (hn : Low (K + 10000) nx) (hc : -10000 ≤ e.c) : Low (K + 10000) (spreadE d nx e) := by
  intro v
  refine ⟨?_, Int.le_trans (spreadE_le d nx e v) (hn v).2⟩
  unfold spreadE
  have h1 := (hn v).1
  have h2 := (h e.u).1
  have h3 := (hn e.v).1
  split
  · by_cases hv : v = e.v
    · subst hv; simp only [upz_same]; omega
    · simp only [upz_other _ _ hv]; omega
  · omega
end Go.Proofs.Ytdpbkhempgghaaa
