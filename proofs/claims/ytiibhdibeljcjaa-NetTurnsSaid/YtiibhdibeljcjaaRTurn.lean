/-
  What the reference's Turned and SameNet return, and slices.Clone of edges. Conditions: as each theorem says.
-/
import Derived.Test.YtiibhdibeljcjaaTurn
import Derived.Test.YtiibhdibeljcjaaOwn3
import Derived.Test.YtiibhdibeljcjaaLib2
import Derived.Test.YtiibhdibeljcjaaEq
import Derived.Deep.RegionHeld3
import Derived.Deep.DeepCutAuto
import Derived.Lib.SliceRun
namespace Go.Proofs.Ytiibhdibeljcjaa
open Go.RowKit
set_option linter.unusedSimpArgs false
set_option linter.unusedVariables false

theorem row_none {α : Type} {enc : α → List Value} {sz : Nat} {w : World} {B : Nat} {xs : List α} (h : Row enc sz w B none xs) : xs = [] := by
  cases xs with
  | nil => rfl
  | cons y r => obtain ⟨b, o, h1, _⟩ := h 0 (by simp); cases h1
theorem own_empty {α : Type} {enc : α → List Value} {sz : Nat} {e : TypeId} (w : World) (base : Nat) (hb : base ≤ w.heap.size) : Own enc sz e (w.alloc (.cells #[] e)) base (.slice (some ⟨w.heap.size, 0, none⟩) 0 0) ([] : List α) :=
  ⟨by simp, .inr ⟨w.heap.size, 0, #[], rfl, hb, heap_alloc_new w _, Nat.le_refl _, Nat.zero_le _, by simp, by simp⟩⟩

def OwnRet {α : Type} (enc : α → List Value) (sz : Nat) (e : TypeId) (xs : List α) (w : World) (e' : Ending) (w' : World) : Prop := ∃ a c, e' = .returned (.slice a xs.length c) ∧ Own enc sz e w' w.heap.size (.slice a xs.length c) xs ∧ Below w.heap.size w w'
theorem cloneE (a : Option Addr) (cap : Nat) (es : List Ed) (w : World) (B : Nat) (hB : B ≤ w.heap.size) (hE : Row encE 3 w B a es) (hl : es.length ≤ 100000) :
    Calls Try.prog 66 #[.slice a es.length cap] w (OwnRet encE 3 79 es w) := by
  have kn := fun (w : World) (a : Option Addr) (n c n' c' : Nat) => Lib.run_eql_slice_nil (P := Try.prog) w 42 79 a n c n' c' Try.underlying42
  cases a with
  | none =>
    obtain rfl := row_none hE
    clear hE
    go_enter Try.func66, Try.ntmps66
    go_wp2
    go_ret
    exact ⟨none, 0, rfl, Own.nil _ _, Below.refl _ _⟩
  | some ad =>
    have hl2 := hide hl
    go_enter Try.func66, Try.ntmps66
    go_wp2_with (at_builtin; go_must (refine wpList_pushAll rfl (.tmp 5) (.tmp 6) 42 rfl _ 24 Try.underlying42 info_ed rfl (by omega) lenE oneE 0 rfl rfl (own_empty w w.heap.size (Nat.le_refl _)) B (some ad) es.length cap es rfl rfl (by simp) (hE.below ((by repeat (first | with_reducible exact Below.refl _ _ | with_reducible assumption | with_reducible refine up_drewN ?_ | with_reducible refine up_drew ?_ | (with_reducible refine up_alloc ?_ ?_; rotate_left; (first | omega | (simp <;> omega) | simp)) | (with_reducible refine up_set ?_ ?_; rotate_left; (first | omega | (simp <;> omega) | simp)) | (with_reducible refine Below.trans ?_ (Below.mono (by with_reducible assumption) ?_); rotate_left; (first | omega | (simp <;> omega) | simp)))) : Below w.heap.size w _) hB) (by have := hl2.out; omega) (by have := hl2.out; unfold maxLen; omega) (by simp) ?_; intro av c' w1 own1 hb1 _; simp only [List.nil_append, Nat.zero_add] at own1 ⊢))
    go_ret
    exact ⟨av, c', rfl, own1, unalloc hb1 (by simp)⟩

theorem below_alloc_up {w0 w : World} {o : Obj} (h : Below w0.heap.size w0 w) : Below w0.heap.size w0 (w.alloc o) := h.alloc h.size o
theorem below_set_up {w0 w : World} {p : Addr} {u : Value} (h : Below w0.heap.size w0 w) (hp : w0.heap.size ≤ p.block) : Below w0.heap.size w0 (w.setCell p u) := h.setCell hp u
def half (es : List Ed) (k : Nat) : List Ed := (es.take k).map flip ++ es.drop k
theorem half_len (es : List Ed) (k : Nat) (hk : k ≤ es.length) : (half es k).length = es.length := by simp [half]; omega
theorem half_get (es : List Ed) (k : Nat) (hk : k < es.length) (h : k < (half es k).length) : (half es k)[k] = es[k] := by
  simp only [half]
  rw [List.getElem_append_right (by simp; omega)]
  simp [Nat.min_eq_left (Nat.le_of_lt hk)]
theorem half_step (es : List Ed) (k : Nat) (hk : k < es.length) : (half es k).set k (flip es[k]) = half es (k + 1) := by
  simp only [half]
  rw [List.set_append_right _ _ (by simp; omega), List.take_succ_eq_append_getElem hk, List.map_append]
  rw [show k - ((es.take k).map flip).length = 0 by simp; omega]
  have hd := List.drop_eq_getElem_cons hk
  rw [hd, List.set_cons_zero]
  simp only [List.map_cons, List.map_nil, List.append_assoc, List.singleton_append]
def Mid (N : Int) (es : List Ed) (w0 : World) (s3 : Value) (wx : World) : Prop := ∃ p av c', s3 = .pointer (some ⟨p, 0, none⟩) ∧ w0.heap.size ≤ p ∧ wx.cell? ⟨p, 0, none⟩ = some (.int .i64 N) ∧ wx.cell? ⟨p, 1, none⟩ = some (.slice av es.length c') ∧ (∀ j, wx.frozen? ⟨p, j, none⟩ = false) ∧
  Own encE 3 79 wx w0.heap.size (.slice av es.length c') es ∧ (Value.slice av es.length c').ownBlock ≠ some p ∧ p < wx.heap.size ∧ Below w0.heap.size w0 wx
theorem half_put {e : TypeId} {w : World} {base g n c : Nat} {es : List Ed} {k : Nat} (own : Own encE 3 e w base (.slice (some ⟨g, 0, none⟩) n c) (half es k)) (hlt : k < es.length) :
    Own encE 3 e ((w.setCell ⟨g, k * 3, none⟩ (.int .i64 es[k].v)).setCell ⟨g, k * 3 + 1, none⟩ (.int .i64 es[k].u)) base (.slice (some ⟨g, 0, none⟩) n c) (half es (k + 1)) := by
  have hkl : k < (half es k).length := by rw [half_len es k (by omega)]; exact hlt
  have h1 := own.put lenE k hkl 0 (by omega) (.int .i64 es[k].v) ⟨es[k].v, es[k].v, es[k].c⟩ (by rw [half_get es k hlt hkl]; rfl)
  have h2 := h1.put lenE k (by simpa using hkl) 1 (by omega) (.int .i64 es[k].u) (flip es[k]) (by rw [List.getElem_set_self]; rfl)
  rw [List.set_set, half_step es k hlt] at h2
  exact h2
set_option maxHeartbeats 400000 in
theorem rturned_any (N : Int) (a : Option Addr) (cap : Nat) (es : List Ed) (w : World) (B : Nat) (hB : B ≤ w.heap.size) (hE : Row encE 3 w B a es) (hl : es.length ≤ 600) :
    Calls Try.prog 27 #[.agg #[.int .i64 N, .slice a es.length cap]] w fun e w' => ∃ v, e = .returned (.agg #[.int .i64 N, v]) ∧ Own encE 3 79 w' w.heap.size v (es.map flip) ∧ Below w.heap.size w w' := by
  go_enter Try.func27, Try.ntmps27
  go_upto_region 1 with fail
  obtain ⟨w0, h0⟩ : ∃ w0, w0 = (w.alloc (.cells #[.int .i64 N, .slice a es.length cap] 44)).alloc (.cells #[.int .i64 0, .slice none 0 0] 44) := ⟨_, rfl⟩
  have hB0 : Below w.heap.size w w0 := by rw [h0]; exact (by repeat (first | with_reducible exact Below.refl _ _ | with_reducible assumption | with_reducible refine up_drewN ?_ | with_reducible refine up_drew ?_ | (with_reducible refine up_alloc ?_ ?_; rotate_left; (first | omega | (simp <;> omega) | simp)) | (with_reducible refine up_set ?_ ?_; rotate_left; (first | omega | (simp <;> omega) | simp)) | (with_reducible refine Below.trans ?_ (Below.mono (by with_reducible assumption) ?_); rotate_left; (first | omega | (simp <;> omega) | simp))))
  have hs0 : w0.heap.size = w.heap.size + 1 + 1 := by rw [h0]; simp
  have c0 : w0.cell? ⟨w.heap.size, 0, none⟩ = some (.int .i64 N) := by rw [h0]; simp [go_sem]
  have c1 : w0.cell? ⟨w.heap.size, 1, none⟩ = some (.slice a es.length cap) := by rw [h0]; simp [go_sem]
  have hE0 := hide (hE.below hB0 hB)
  have key := hide (show ∀ w', Below w0.heap.size w0 w' → (Below w0.heap.size w0 w' ∧ w'.cell? ⟨w.heap.size, 0, none⟩ = some (.int .i64 N) ∧ w'.cell? ⟨w.heap.size, 1, none⟩ = some (.slice a es.length cap) ∧ w0.heap.size ≤ w'.heap.size) from
    fun w' hb => ⟨hb, (hb.cell (by simp; omega)).trans c0, (hb.cell (by simp; omega)).trans c1, hb.size⟩)
  replace hs0 := hide hs0
  have k2 : w0.cell? ⟨w.heap.size + 1, 0, none⟩ = some (.int .i64 0) := by rw [h0]; simp [go_sem]
  have k3 : w0.cell? ⟨w.heap.size + 1, 1, none⟩ = some (.slice none 0 0) := by rw [h0]; simp [go_sem]
  have k4 : ∀ j, w0.frozen? ⟨w.heap.size + 1, j, none⟩ = false := by intro j; rw [h0]; simp [go_sem]
  simp only [← h0]
  clear h0 c0 c1
  go_cut [3] (fun s3 wx => Mid N es w0 s3 wx)
  case first =>
    clear k2 k3 k4
    go_region_held3 (fun w' => Below w0.heap.size w0 w' ∧ w'.cell? ⟨w.heap.size, 0, none⟩ = some (.int .i64 N) ∧ w'.cell? ⟨w.heap.size, 1, none⟩ = some (.slice a es.length cap) ∧ w0.heap.size ≤ w'.heap.size)
      (first | exact key.out _ (below_drew _) | exact key.out _ (by assumption) | exact key.out _ (below_alloc_up (below_drew _)) | exact key.out _ (below_alloc_up (by assumption)) | exact key.out _ (below_set_up (And.left (by assumption)) (by simp <;> omega)) | exact key.out _ (below_set_up (below_set_up (And.left (by assumption)) (Nat.le_refl _)) (Nat.le_refl _)) | exact key.out _ (below_alloc_up (And.left (by assumption))))
      (first | (go_at_call 66; have hb4 := (‹_ ∧ _› : _ ∧ _).1; refine (cloneE a cap es _ w0.heap.size (Below.size hb4) ((hE0.out.mono (by have := hs0.out; omega)).below hb4 (Nat.le_refl _)) (by omega)).mono ?_; rintro e w4 ⟨av, c', rfl, own4, hb5⟩; have hb6 := below_step hb4 hb5; obtain ⟨hc4, hf4⟩ := bcell hb5))
    all_goals
      go_wp2_with fail
      go_meet
    · refine ⟨w4.heap.size, av, c', rfl, (by have h := hb5.size; simpa using h), by simp, by simp, ?_, own4.alloc _, ?_, by simp, (‹_ ∧ _› : _ ∧ _).1⟩
      · intro j; simp [go_sem]
      · intro h; have := own4.block_lt _ h; omega
    · have hlt4 : w0.heap.size < w4.heap.size := by have h := hb5.size; simp at h; omega
      have hne : (Value.slice av es.length c').ownBlock ≠ some w0.heap.size := by intro h; have := own4.block_lt _ h; simp at this; omega
      refine ⟨w0.heap.size, av, c', rfl, Nat.le_refl _, by simp [go_sem, hc4], by simp [go_sem, hc4], ?_, ((own4.base_le (by simp)).elsewhere hne _).elsewhere hne _, hne, by simpa using hlt4, (‹_ ∧ _› : _ ∧ _).1⟩
      intro j
      simp [go_sem, hf4]
  case rest =>
    obtain ⟨p, av, c', rfl, hp, p0, p1, pf, own, hne, hplt, hbc⟩ := hcut
    have j0 := hs0.out
    have b1 := (key.out _ hbc).2.1
    have b2 := (key.out _ hbc).2.2.1
    have b3 := (key.out _ hbc).2.2.2
    have d2 : wc.cell? ⟨w.heap.size + 1, 0, none⟩ = some (.int .i64 0) := (hbc.cell (by simp; omega)).trans k2
    have d3 : wc.cell? ⟨w.heap.size + 1, 1, none⟩ = some (.slice none 0 0) := (hbc.cell (by simp; omega)).trans k3
    have d4 : ∀ j, wc.frozen? ⟨w.heap.size + 1, j, none⟩ = false := fun j => (hbc.frozen (p := ⟨w.heap.size + 1, j, none⟩) (by simp; omega)).trans (k4 j)
    have q1 : w.heap.size < w0.heap.size := by omega
    have q2 : w.heap.size + 1 < w0.heap.size := by omega
    clear k2 k3 k4 j0 key
    have own := hide own
    go_wp2
    go_loopw [15] (fun i wr => ∃ k : Nat, k ≤ es.length ∧ i = .int .i64 k ∧ wr.cell? ⟨p, 0, none⟩ = some (.int .i64 N) ∧ wr.cell? ⟨p, 1, none⟩ = some (.slice av es.length c') ∧
      wr.cell? ⟨w.heap.size + 1, 0, none⟩ = some (.int .i64 0) ∧ wr.cell? ⟨w.heap.size + 1, 1, none⟩ = some (.slice none 0 0) ∧ (∀ j, wr.frozen? ⟨w.heap.size + 1, j, none⟩ = false) ∧
      Hid (Own encE 3 79 wr w0.heap.size (.slice av es.length c') (half es k)) ∧ Below w0.heap.size w0 wr ∧ p < wr.heap.size) (fun i _ => es.length - (intOf i).toNat)
    case atStart => exact ⟨0, Nat.zero_le _, rfl, p0, p1, d2, d3, d4, by simpa [half] using own, hbc, hplt⟩
    case round =>
      obtain ⟨k, hk, rfl, p0, p1, d2, d3, d4, own, hbr, hpl⟩ := hrel
      have hsz := hbr.size
      by_cases hlt : k < es.length
      · obtain ⟨b, o, rfl, hbB, e0, e1, e2⟩ := hE0.out.ed k hlt
        have hbB : b < w0.heap.size := by omega
        rw [← hbr.cell (by simpa using hbB)] at e0 e1 e2
        rcases own.out.form with ⟨_, hh⟩ | ⟨g, cg, hv, hg1, hg2, _⟩
        · have := half_len es k hk; rw [hh] at this; simp at this; omega
        rw [half_len es k hk] at hv
        simp only [Value.slice.injEq] at hv
        obtain ⟨rfl, _, rfl⟩ := hv
        have hkl : k < (half es k).length := by rw [half_len es k hk]; exact hlt
        obtain ⟨g0, g1, g2⟩ := own.out.getE k hkl
        rw [half_get es k hlt hkl] at g0 g1 g2
        have gf := own.out.free
        have hgp : p ≠ g := by intro h; exact hne (by simp [Value.ownBlock, h])
        have hgp' : g ≠ p := fun h => hgp h.symm
        have i1 : (0 : Int) ≤ (k : Int) ∧ (k : Int) < (es.length : Int) := by omega
        have hl' := hide (half_len es k hk)
        clear hne hE
        go_wp2
        go_region
        go_wp2
        go_roundw
        case rel =>
          refine ⟨k + 1, by omega, by go_num, ?_, ?_, ?_, ?_, ?_, ?_, ?_, ?_⟩
          · exact (by repeat (first | with_reducible assumption | with_reducible refine cu_drew ?_ | with_reducible refine cu_drewN ?_ | with_reducible refine cu_alloc ?_ | (with_reducible refine cu_set ?_ ?_; rotate_left; (first | with_reducible assumption | omega | (simp <;> omega) | simp)) | with_reducible refine fu_drew ?_ | with_reducible refine fu_drewN ?_ | with_reducible refine fu_alloc ?_ | with_reducible refine fu_set ?_))
          · exact (by repeat (first | with_reducible assumption | with_reducible refine cu_drew ?_ | with_reducible refine cu_drewN ?_ | with_reducible refine cu_alloc ?_ | (with_reducible refine cu_set ?_ ?_; rotate_left; (first | with_reducible assumption | omega | (simp <;> omega) | simp)) | with_reducible refine fu_drew ?_ | with_reducible refine fu_drewN ?_ | with_reducible refine fu_alloc ?_ | with_reducible refine fu_set ?_))
          · exact (by repeat (first | with_reducible assumption | with_reducible refine cu_drew ?_ | with_reducible refine cu_drewN ?_ | with_reducible refine cu_alloc ?_ | (with_reducible refine cu_set ?_ ?_; rotate_left; (first | with_reducible assumption | omega | (simp <;> omega) | simp)) | with_reducible refine fu_drew ?_ | with_reducible refine fu_drewN ?_ | with_reducible refine fu_alloc ?_ | with_reducible refine fu_set ?_))
          · exact (by repeat (first | with_reducible assumption | with_reducible refine cu_drew ?_ | with_reducible refine cu_drewN ?_ | with_reducible refine cu_alloc ?_ | (with_reducible refine cu_set ?_ ?_; rotate_left; (first | with_reducible assumption | omega | (simp <;> omega) | simp)) | with_reducible refine fu_drew ?_ | with_reducible refine fu_drewN ?_ | with_reducible refine fu_alloc ?_ | with_reducible refine fu_set ?_))
          · intro j; have := d4 j; exact (by repeat (first | with_reducible assumption | with_reducible refine cu_drew ?_ | with_reducible refine cu_drewN ?_ | with_reducible refine cu_alloc ?_ | (with_reducible refine cu_set ?_ ?_; rotate_left; (first | with_reducible assumption | omega | (simp <;> omega) | simp)) | with_reducible refine fu_drew ?_ | with_reducible refine fu_drewN ?_ | with_reducible refine fu_alloc ?_ | with_reducible refine fu_set ?_))
          · exact hide (Own.drew (Own.alloc (half_put own.out hlt) _))
          · exact up_drew (up_alloc (up_set (up_set hbr hg1) hg1) (by simp [go_sem]; omega))
          · simp [go_sem]; omega
        case measure => simp [intOf]; omega
      · obtain rfl : k = es.length := by omega
        go_wp2
        refine bodyPost_ret (v := .agg #[.int .i64 N, .slice av es.length c']) (by simp [results, Try.results27, go_sem, d2, d3, d4]) rfl ⟨_, rfl, ?_, ?_⟩
        · have h := own.out
          simp only [half, List.take_length, List.drop_length, List.append_nil] at h
          exact ((h.setCell (by simp; omega) _).setCell (by simp; omega) _).base_le (by omega)
        · have hB1 : Below w.heap.size w wr := hB0.trans (hbr.mono (by omega))
          exact (hB1.setCell (by simp) _).setCell (by simp) _

end Go.Proofs.Ytiibhdibeljcjaa
