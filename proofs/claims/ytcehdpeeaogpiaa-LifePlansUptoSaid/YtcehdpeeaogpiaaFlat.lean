/-
  What net.Copy and john.flat return. Conditions: a right net, heights in bounds.
-/
import Derived.Test.YtcehdpeeaogpiaaFlatP
import Derived.Test.YtcehdpeeaogpiaaPushAll
import Derived.Test.YtcehdpeeaogpiaaBase
import Derived.BigRegion
namespace Go.Proofs.Ytcehdpeeaogpiaa
open Go.RowKit
set_option linter.unusedSimpArgs false
set_option linter.unusedVariables false
def NetGot (e0 : TypeId) (N : Int) (es : List Ed) (w : World) (e : Ending) (w' : World) : Prop := ∃ v, e = .returned (.agg #[.int .i64 N, v]) ∧ Own encE 3 e0 w' w.heap.size v es ∧ Below w.heap.size w w'
/-- what holds while john.flat runs: the result's place, the copy at w1's end, its edges so far -/
structure FlI (w w1 : World) (n : Nat) (a0 : Option Addr) (m c0 : Nat) (es : List Ed) (wr : World) : Prop where
  r0 : wr.cell? ⟨w.heap.size + 1, 0, none⟩ = some (.int .i64 0)
  r1 : wr.cell? ⟨w.heap.size + 1, 1, none⟩ = some (.slice none 0 0)
  f0 : wr.frozen? ⟨w.heap.size + 1, 0, none⟩ = false
  f1 : wr.frozen? ⟨w.heap.size + 1, 1, none⟩ = false
  o0 : wr.cell? ⟨w1.heap.size, 0, none⟩ = some (.int .i64 (n : Int))
  o1 : wr.cell? ⟨w1.heap.size, 1, none⟩ = some (.slice a0 m c0)
  own : Own encE 3 34 wr (w.heap.size + 1 + 1) (.slice a0 m c0) es
  bel : Below w.heap.size w wr
  low : w.heap.size + 1 < w1.heap.size
  old : ∀ b, (Value.slice a0 m c0).ownBlock = some b → b < w1.heap.size
section
variable {w w1 wr w' : World} {n m c0 : Nat} {a0 : Option Addr} {es : List Ed}
theorem FlI.lt (h : FlI w w1 n a0 m c0 es wr) : w1.heap.size < wr.heap.size := cell_lt h.o0
theorem FlI.stays (h : FlI w w1 n a0 m c0 es wr) (b : Below wr.heap.size wr w') : FlI w w1 n a0 m c0 es w' :=
  have hl := h.lt
  ⟨cu_below b h.r0 (cell_lt h.r0), cu_below b h.r1 (cell_lt h.r1), fu_below b h.f0 (cell_lt h.r0), fu_below b h.f1 (cell_lt h.r1), cu_below b h.o0 hl, cu_below b h.o1 hl, h.own.stays b, h.bel.trans (b.mono h.bel.size), h.low, h.old⟩
/-- one edge's cost stored -/
theorem FlI.put {g : Nat} (h : FlI w w1 n (some ⟨g, 0, none⟩) m c0 es wr) (k : Nat) (hk : k < es.length) (x : Ed) (hx : encE x = (encE es[k]).set 2 (.int .i64 x.c)) : FlI w w1 n (some ⟨g, 0, none⟩) m c0 (es.set k x) (wr.setCell ⟨g, k * 3 + 2, none⟩ (.int .i64 x.c)) := by
  have hl := h.lt
  have hb := h.own.at_base
  have ho := h.old g rfl
  have hs : ∀ {b o : Nat} {u : Value}, b ≠ g → wr.cell? ⟨b, o, none⟩ = some u → (wr.setCell ⟨g, k * 3 + 2, none⟩ (.int .i64 x.c)).cell? ⟨b, o, none⟩ = some u := fun hb hc => cu_set hc (fun e => hb e.symm)
  exact ⟨hs (by omega) h.r0, hs (by omega) h.r1, fu_set h.f0, fu_set h.f1, hs (by omega) h.o0, hs (by omega) h.o1, h.own.put lenE k hk 2 (by omega) _ x hx, h.bel.setCell (by simp; omega) _, h.low, h.old⟩
/-- the result stored -/
theorem FlI.done (h : FlI w w1 n a0 m c0 es wr) : Own encE 3 34 ((wr.setCell ⟨w.heap.size + 1, 0, none⟩ (.int .i64 (n : Int))).setCell ⟨w.heap.size + 1, 1, none⟩ (.slice a0 m c0)) w.heap.size (.slice a0 m c0) es ∧ Below w.heap.size w ((wr.setCell ⟨w.heap.size + 1, 0, none⟩ (.int .i64 (n : Int))).setCell ⟨w.heap.size + 1, 1, none⟩ (.slice a0 m c0)) := by
  have hne : (Value.slice a0 m c0).ownBlock ≠ some (w.heap.size + 1) := fun e => by have := (h.own.block_lt _ e).1; omega
  exact ⟨((h.own.elsewhere (p := ⟨w.heap.size + 1, 0, none⟩) hne _).elsewhere (p := ⟨w.heap.size + 1, 1, none⟩) hne _).base_le (by omega), (h.bel.setCell (by simp) _).setCell (by simp) _⟩
end
set_option maxRecDepth 100000 in
set_option maxHeartbeats 2000000 in
theorem copy_any (N : Int) (a : Option Addr) (cap : Nat) (es : List Ed) (w : World) (B : Nat) (hB : B ≤ w.heap.size) (hE : Row encE 3 w B a es) (hl : es.length ≤ 100000) :
    Calls Try.prog 115 #[.agg #[.int .i64 N, .slice a es.length cap]] w (NetGot 34 N es w) := by
  obtain ⟨m, hm⟩ : ∃ m, m = es.length := ⟨_, rfl⟩
  rw [← hm] at hl ⊢
  replace hm := hide hm
  replace hE := hide hE
  go_enter Try.func115, Try.ntmps115
  go_wp2
  obtain ⟨w0, h0⟩ : ∃ w0, w0 = ((w.alloc (.cells #[.int .i64 N, .slice a m cap] 24)).alloc (.cells #[.int .i64 0, .slice none 0 0] 24)) := ⟨_, rfl⟩
  have hB0 : Below w.heap.size w w0 := by rw [h0]; exact (by repeat (first | with_reducible exact Below.refl _ _ | with_reducible assumption | with_reducible refine up_drewN ?_ | with_reducible refine up_drew ?_ | (with_reducible refine up_alloc ?_ ?_; rotate_left; (first | omega | (simp <;> omega) | simp)) | (with_reducible refine up_set ?_ ?_; rotate_left; (first | omega | (simp <;> omega) | simp)) | (with_reducible refine Below.trans ?_ (Below.mono (by with_reducible assumption) ?_); rotate_left; (first | omega | (simp <;> omega) | simp))))
  have k0 : w0.cell? ⟨w.heap.size, 0, none⟩ = some (.int .i64 N) := by rw [h0]; simp [go_sem]
  have k1 : w0.cell? ⟨w.heap.size, 1, none⟩ = some (.slice a m cap) := by rw [h0]; simp [go_sem]
  have r0 : w0.cell? ⟨w.heap.size + 1, 0, none⟩ = some (.int .i64 0) := by rw [h0]; simp [go_sem]
  have r1 : w0.cell? ⟨w.heap.size + 1, 1, none⟩ = some (.slice none 0 0) := by rw [h0]; simp [go_sem]
  have f0 : w0.frozen? ⟨w.heap.size + 1, 0, none⟩ = false := by rw [h0]; simp [go_sem]
  have f1 : w0.frozen? ⟨w.heap.size + 1, 1, none⟩ = false := by rw [h0]; simp [go_sem]
  have hz : w.heap.size + 1 < w0.heap.size := cell_lt r0
  have hz' : w.heap.size < w0.heap.size := by omega
  have hE0 := hide ((hE.out.below hB0 hB).mono (show B ≤ w0.heap.size by omega))
  simp only [← h0]
  replace hB0 := hide hB0
  clear h0
  go_region_law (first
    | (refine step_pushAll (base := w0.heap.size) (xs := ([] : List Ed)) (v := .slice none 0 0) rfl (.const (.slice none 0 0)) (.tmp 6) 22 rfl _ 24 Try.underlying22 info_ed rfl (by omega) lenE oneE 0 rfl rfl (Own.nil _ _) w0.heap.size a m cap es hm.out.symm rfl ?_ (by omega) (by unfold maxLen; omega) (Nat.le_refl _) ?_; (next => first | exact hE0.out | exact hE0.out.below (below_drew _) (Nat.le_refl _)); intro a4 c4 w4 own4 hb4 hg4; have j0 := cu_below hb4 r0 hz; have j1 := cu_below hb4 r1 hz; have j2 := fu_below hb4 f0 hz; have j3 := fu_below hb4 f1 hz; have hz4 := hb4.size; have i0 := cu_below hb4 k0 hz'; have i1 := cu_below hb4 k1 hz'))
  all_goals
    have hb4' : Below w0.heap.size w0 w4 := by first | exact hb4 | exact (below_drew w0).trans hb4
    have own5 : Own encE 3 34 w4 w0.heap.size (.slice a4 m c4) es := by simpa using own4
    have hne : ∀ {b : Nat}, b < w0.heap.size → (Value.slice a4 m c4).ownBlock ≠ some b := fun {b} hb e => by have := (own5.block_lt b e).1; omega
    have own6 := hide (((own5.elsewhere (p := ⟨w.heap.size + 1, 0, none⟩) (hne hz) (.int .i64 N)).elsewhere (p := ⟨w.heap.size + 1, 1, none⟩) (hne hz) (.slice a4 m c4)).base_le (show w.heap.size ≤ w0.heap.size by omega))
    have hbf := hide (((hB0.out.trans (hb4'.mono (by omega))).setCell (p := ⟨w.heap.size + 1, 0, none⟩) (by simp) (.int .i64 N)).setCell (p := ⟨w.heap.size + 1, 1, none⟩) (by simp) (.slice a4 m c4))
    clear own4 own5 hne hb4 hb4' hg4
    go_wp2
    refine bodyPost_ret (v := .agg #[.int .i64 N, .slice a4 m c4]) (by simp [results, Try.results115, go_sem, j0, j1, hz4]) rfl ⟨_, rfl, own6.out, hbf.out⟩
