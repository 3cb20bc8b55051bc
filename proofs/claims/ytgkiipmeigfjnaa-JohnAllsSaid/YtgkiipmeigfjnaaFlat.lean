/-
  What net.Copy and john.flat return. Conditions: a right net, heights in bounds.
-/
import Derived.Test.YtgkiipmeigfjnaaFlatP
import Derived.Test.YtgkiipmeigfjnaaPushAll
import Derived.Test.YtgkiipmeigfjnaaEdge
import Derived.Test.YtgkiipmeigfjnaaKeep
import Derived.BigRegion
namespace Go.Proofs.Ytgkiipmeigfjnaa
open Go.RowKit
set_option linter.unusedSimpArgs false
set_option linter.unusedVariables false
def NetGot (e0 : TypeId) (N : Int) (es : List Ed) (w : World) (e : Ending) (w' : World) : Prop := ∃ v, e = .returned (.agg #[.int .i64 N, v]) ∧ Own encE 3 e0 w' w.heap.size v es ∧ Below w.heap.size w w'
/-- what holds while john.flat runs: the result's place, the copy at w1's end, its edges so far -/
structure FlI (w w1 : World) (n : Nat) (a0 : Option Addr) (m c0 : Nat) (es : List Ed) (wr : World) : Prop where
  r0 : wr.cell? ⟨w.heap.size + 1, 0, none⟩ = some (.int .i64 0)
  r1 : wr.cell? ⟨w.heap.size + 1, 1, none⟩ = some (.slice none 0 0)
  f0 : wr.frozen? ⟨w.heap.size + 1, 0, none⟩ = false
  f1 : wr.frozen? ⟨w.heap.size + 1, 1, none⟩ = false
  o0 : wr.cell? ⟨w1.heap.size, 0, none⟩ = some (.int .i64 (n : Int))
  o1 : wr.cell? ⟨w1.heap.size, 1, none⟩ = some (.slice a0 m c0)
  own : Own encE 3 26 wr (w.heap.size + 1 + 1) (.slice a0 m c0) es
  bel : Below w.heap.size w wr
  low : w.heap.size + 1 < w1.heap.size
  old : ∀ b, (Value.slice a0 m c0).ownBlock = some b → b < w1.heap.size
section
variable {w w1 wr w' : World} {n m c0 : Nat} {a0 : Option Addr} {es : List Ed}
theorem FlI.lt (h : FlI w w1 n a0 m c0 es wr) : w1.heap.size < wr.heap.size := cell_lt h.o0
theorem FlI.stays (h : FlI w w1 n a0 m c0 es wr) (b : Below wr.heap.size wr w') : FlI w w1 n a0 m c0 es w' :=
  have hl := h.lt
  ⟨cu_below b h.r0 (cell_lt h.r0), cu_below b h.r1 (cell_lt h.r1), fu_below b h.f0 (cell_lt h.r0), fu_below b h.f1 (cell_lt h.r1), cu_below b h.o0 hl, cu_below b h.o1 hl, h.own.stays b, h.bel.trans (b.mono h.bel.size), h.low, h.old⟩
/-- one edge's cost stored -/
theorem FlI.put {g : Nat} (h : FlI w w1 n (some ⟨g, 0, none⟩) m c0 es wr) (k : Nat) (hk : k < es.length) (x : Ed) (hx : encE x = (encE es[k]).set 2 (.int .i64 x.c)) : FlI w w1 n (some ⟨g, 0, none⟩) m c0 (es.set k x) (wr.setCell ⟨g, k * 3 + 2, none⟩ (.int .i64 x.c)) := by
  have hl := h.lt
  have hb := h.own.at_base
  have ho := h.old g rfl
  have hs : ∀ {b o : Nat} {u : Value}, b ≠ g → wr.cell? ⟨b, o, none⟩ = some u → (wr.setCell ⟨g, k * 3 + 2, none⟩ (.int .i64 x.c)).cell? ⟨b, o, none⟩ = some u := fun hb hc => cu_set hc (fun e => hb e.symm)
  exact ⟨hs (by omega) h.r0, hs (by omega) h.r1, fu_set h.f0, fu_set h.f1, hs (by omega) h.o0, hs (by omega) h.o1, h.own.put lenE k hk 2 (by omega) _ x hx, h.bel.setCell (by simp; omega) _, h.low, h.old⟩
/-- the result stored -/
theorem FlI.done (h : FlI w w1 n a0 m c0 es wr) : Own encE 3 26 ((wr.setCell ⟨w.heap.size + 1, 0, none⟩ (.int .i64 (n : Int))).setCell ⟨w.heap.size + 1, 1, none⟩ (.slice a0 m c0)) w.heap.size (.slice a0 m c0) es ∧ Below w.heap.size w ((wr.setCell ⟨w.heap.size + 1, 0, none⟩ (.int .i64 (n : Int))).setCell ⟨w.heap.size + 1, 1, none⟩ (.slice a0 m c0)) := by
  have hne : (Value.slice a0 m c0).ownBlock ≠ some (w.heap.size + 1) := fun e => by have := (h.own.block_lt _ e).1; omega
  exact ⟨((h.own.elsewhere (p := ⟨w.heap.size + 1, 0, none⟩) hne _).elsewhere (p := ⟨w.heap.size + 1, 1, none⟩) hne _).base_le (by omega), (h.bel.setCell (by simp) _).setCell (by simp) _⟩
end
set_option maxRecDepth 100000 in
set_option maxHeartbeats 2000000 in
theorem copy_any (N : Int) (a : Option Addr) (cap : Nat) (es : List Ed) (w : World) (B : Nat) (hB : B ≤ w.heap.size) (hE : Row encE 3 w B a es) (hl : es.length ≤ 100000) :
    Calls Try.prog 147 #[.agg #[.int .i64 N, .slice a es.length cap]] w (NetGot 26 N es w) := by
  obtain ⟨m, hm⟩ : ∃ m, m = es.length := ⟨_, rfl⟩
  rw [← hm] at hl ⊢
  replace hm := hide hm
  replace hE := hide hE
  go_enter Try.func147, Try.ntmps147
  go_wp2
  obtain ⟨w0, h0⟩ : ∃ w0, w0 = ((w.alloc (.cells #[.int .i64 N, .slice a m cap] 24)).alloc (.cells #[.int .i64 0, .slice none 0 0] 24)) := ⟨_, rfl⟩
  have hB0 : Below w.heap.size w w0 := by rw [h0]; exact (by repeat (first | with_reducible exact Below.refl _ _ | with_reducible assumption | with_reducible refine up_drewN ?_ | with_reducible refine up_drew ?_ | (with_reducible refine up_alloc ?_ ?_; rotate_left; (first | omega | (simp <;> omega) | simp)) | (with_reducible refine up_set ?_ ?_; rotate_left; (first | omega | (simp <;> omega) | simp)) | (with_reducible refine Below.trans ?_ (Below.mono (by with_reducible assumption) ?_); rotate_left; (first | omega | (simp <;> omega) | simp))))
  have k0 : w0.cell? ⟨w.heap.size, 0, none⟩ = some (.int .i64 N) := by rw [h0]; simp [go_sem]
  have k1 : w0.cell? ⟨w.heap.size, 1, none⟩ = some (.slice a m cap) := by rw [h0]; simp [go_sem]
  have r0 : w0.cell? ⟨w.heap.size + 1, 0, none⟩ = some (.int .i64 0) := by rw [h0]; simp [go_sem]
  have r1 : w0.cell? ⟨w.heap.size + 1, 1, none⟩ = some (.slice none 0 0) := by rw [h0]; simp [go_sem]
  have f0 : w0.frozen? ⟨w.heap.size + 1, 0, none⟩ = false := by rw [h0]; simp [go_sem]
  have f1 : w0.frozen? ⟨w.heap.size + 1, 1, none⟩ = false := by rw [h0]; simp [go_sem]
  have hz : w.heap.size + 1 < w0.heap.size := cell_lt r0
  have hz' : w.heap.size < w0.heap.size := by omega
  have hE0 := hide ((hE.out.below hB0 hB).mono (show B ≤ w0.heap.size by omega))
  simp only [← h0]
  replace hB0 := hide hB0
  clear h0
  go_region_law (first
    | (refine step_pushAll (base := w0.heap.size) (xs := ([] : List Ed)) (v := .slice none 0 0) rfl (.const (.slice none 0 0)) (.tmp 6) 22 rfl _ 24 Try.underlying22 info_ed rfl (by omega) lenE oneE 0 rfl rfl (Own.nil _ _) w0.heap.size a m cap es hm.out.symm rfl ?_ (by omega) (by unfold maxLen; omega) (Nat.le_refl _) ?_; (next => first | exact hE0.out | exact hE0.out.below (below_drew _) (Nat.le_refl _)); intro a4 c4 w4 own4 hb4 hg4; have j0 := cu_below hb4 r0 hz; have j1 := cu_below hb4 r1 hz; have j2 := fu_below hb4 f0 hz; have j3 := fu_below hb4 f1 hz; have hz4 := hb4.size; have i0 := cu_below hb4 k0 hz'; have i1 := cu_below hb4 k1 hz'))
  all_goals
    have hb4' : Below w0.heap.size w0 w4 := by first | exact hb4 | exact (below_drew w0).trans hb4
    have own5 : Own encE 3 26 w4 w0.heap.size (.slice a4 m c4) es := by simpa using own4
    have hne : ∀ {b : Nat}, b < w0.heap.size → (Value.slice a4 m c4).ownBlock ≠ some b := fun {b} hb e => by have := (own5.block_lt b e).1; omega
    have own6 := hide (((own5.elsewhere (p := ⟨w.heap.size + 1, 0, none⟩) (hne hz) (.int .i64 N)).elsewhere (p := ⟨w.heap.size + 1, 1, none⟩) (hne hz) (.slice a4 m c4)).base_le (show w.heap.size ≤ w0.heap.size by omega))
    have hbf := hide (((hB0.out.trans (hb4'.mono (by omega))).setCell (p := ⟨w.heap.size + 1, 0, none⟩) (by simp) (.int .i64 N)).setCell (p := ⟨w.heap.size + 1, 1, none⟩) (by simp) (.slice a4 m c4))
    clear own4 own5 hne hb4 hb4' hg4
    go_wp2
    refine bodyPost_ret (v := .agg #[.int .i64 N, .slice a4 m c4]) (by simp [results, Try.results147, go_sem, j0, j1, hz4]) rfl ⟨_, rfl, own6.out, hbf.out⟩
set_option maxRecDepth 100000 in
set_option maxHeartbeats 2000000 in
theorem flat_any (n : Nat) (a : Option Addr) (cap : Nat) (es : List Ed) (f : Nat → Int) (ah : Option Addr) (ch : Nat) (w : World) (B : Nat) (hB : B ≤ w.heap.size) (hE : Row encE 3 w B a es) (hH : Row encI 1 w B ah (LI n f)) (hl : es.length ≤ 600) (hes : Right n es) (hf : ∀ i, -1000000 ≤ f i ∧ f i ≤ 1000000) :
    Calls Try.prog 104 #[.agg #[.int .i64 (n : Int), .slice a es.length cap], .slice ah n ch] w (NetGot 26 (n : Int) (es.map (flE f)) w) := by
  have hC := hide (fun w hB hE => copy_any (n : Int) a cap es w B hB hE (by omega))
  obtain ⟨m, hm⟩ : ∃ m, m = es.length := ⟨_, rfl⟩
  rw [← hm] at hl hC ⊢
  replace hm := hide hm
  replace hE := hide hE
  replace hH := hide hH
  replace hes := hide hes
  replace hf := hide hf
  go_enter Try.func104, Try.ntmps104
  go_wp2_with fail
  refine (hC.out _ (by simp; omega) (hE.out.below ((by repeat (first | with_reducible exact Below.refl _ _ | with_reducible assumption | with_reducible refine up_drewN ?_ | with_reducible refine up_drew ?_ | (with_reducible refine up_alloc ?_ ?_; rotate_left; (first | omega | (simp <;> omega) | simp)) | (with_reducible refine up_set ?_ ?_; rotate_left; (first | omega | (simp <;> omega) | simp)) | (with_reducible refine Below.trans ?_ (Below.mono (by with_reducible assumption) ?_); rotate_left; (first | omega | (simp <;> omega) | simp)))) : Below w.heap.size w _) hB)).mono ?_
  rintro e w1 ⟨v, rfl, own, hb1⟩
  obtain ⟨a0, c0, rfl⟩ := own.shape hm.out.symm
  have hbw1 := hide (unalloc (unalloc (hb1.mono (by simp <;> omega)) (by simp)) (Nat.le_refl _) : Below w.heap.size w w1)
  have r0 : w1.cell? ⟨w.heap.size + 1, 0, none⟩ = some (.int .i64 0) := cu_below hb1 (by simp [go_sem]) (by simp)
  have r1 : w1.cell? ⟨w.heap.size + 1, 1, none⟩ = some (.slice none 0 0) := cu_below hb1 (by simp [go_sem]) (by simp)
  have f0 : w1.frozen? ⟨w.heap.size + 1, 0, none⟩ = false := fu_below hb1 (by simp [go_sem]) (by simp)
  have f1 : w1.frozen? ⟨w.heap.size + 1, 1, none⟩ = false := fu_below hb1 (by simp [go_sem]) (by simp)
  have own1 : Own encE 3 26 w1 (w.heap.size + 1 + 1) (.slice a0 m c0) es := by simpa using own
  have hz1 : w.heap.size + 1 < w1.heap.size := cell_lt r0
  clear own hb1 hC
  have hb2 : Below w1.heap.size w1 (w1.alloc (.cells #[.int .i64 (n : Int), .slice a0 m c0] 24)) := (Below.refl _ _).alloc (Nat.le_refl _) _
  have hI0 : FlI w w1 n a0 m c0 (flK f es 0) (w1.alloc (.cells #[.int .i64 (n : Int), .slice a0 m c0] 24)) := by
    refine ⟨cu_below hb2 r0 hz1, cu_below hb2 r1 hz1, fu_below hb2 f0 hz1, fu_below hb2 f1 hz1, by simp [go_sem], by simp [go_sem], by rw [flK_zero]; exact own1.stays hb2, hbw1.out.trans (hb2.mono (by omega)), hz1, fun b hb => (own1.block_lt b hb).2⟩
  replace hI0 := hide hI0
  clear r0 r1 f0 f1 own1 hb2
  go_wp2
  generalize (w1.alloc (.cells #[.int .i64 (n : Int), .slice a0 m c0] 24)) = w2 at hI0 ⊢
  go_loopw [13] (fun i wr => ∃ k : Nat, k ≤ m ∧ i = .int .i64 k ∧ Hid (FlI w w1 n a0 m c0 (flK f es k) wr)) (fun i _ => m - (intOf i).toNat)
  case atStart => exact ⟨0, Nat.zero_le _, rfl, hI0⟩
  case round =>
    obtain ⟨k, hk, rfl, hI⟩ := hrel
    clear hI0
    have o0 := hI.out.o0
    have o1 := hI.out.o1
    have hzr := hI.out.lt
    by_cases hlt : k < m
    · have hlt' : k < es.length := by have := hm.out; omega
      obtain ⟨u, v, d1, d2, d3, d4, d5, d6, -⟩ := right_edge hes.out k hlt'
      obtain ⟨g, rfl, hg1, hg2⟩ := hI.out.own.blockI (by omega)
      have hg3 := hI.out.old g rfl
      have hkl : k < (flK f es k).length := by rw [flK_len]; exact hlt'
      obtain ⟨x0, x1, x2⟩ := hI.out.own.getE k hkl
      rw [flK_get f es k hlt' hkl] at x0 x1 x2
      rw [d1] at x0
      rw [d2] at x1
      have hHr := hH.out.below hI.out.bel hB
      obtain ⟨b3, o3, rfl, hb3, y1⟩ := hHr.atI u d3
      obtain ⟨b4, o4, e4, _, y2⟩ := hHr.atI v d4
      simp only [Option.some.injEq, Addr.mk.injEq] at e4
      obtain ⟨rfl, rfl, _⟩ := e4
      have g1 := hf.out u
      have g2 := hf.out v
      have hset := hide (fun w' (hb : Below wr.heap.size wr w') => (hI.out.stays hb).put k hkl (flE f es[k]) (by rw [flK_get f es k hlt' hkl]; rfl))
      rw [flK_set f es k hlt'] at hset
      have hfl : (flE f es[k]).c = es[k].c + f u - f v := by unfold flE; simp [d1, d2]
      obtain ⟨c, hc⟩ : ∃ c, c = es[k].c := ⟨_, rfl⟩
      obtain ⟨p, hp⟩ : ∃ p, p = f u := ⟨_, rfl⟩
      obtain ⟨r, hr⟩ : ∃ r, r = f v := ⟨_, rfl⟩
      rw [hfl] at hset
      rw [← hc] at x2 d5 d6 hset
      rw [← hp] at y1 g1 hset
      rw [← hr] at y2 g2 hset
      have fg := hI.out.own.free (k * 3 + 2)
      have l3 := cell_lt y1
      have iu : (0 : Int) ≤ (u : Int) ∧ (u : Int) < (n : Int) := by omega
      have iv : (0 : Int) ≤ (v : Int) ∧ (v : Int) < (n : Int) := by omega
      have ik : (0 : Int) ≤ (k : Int) ∧ (k : Int) < (m : Int) := by omega
      clear hfl hHr
      replace hc := hide hc
      replace hp := hide hp
      replace hr := hide hr
      replace d1 := hide d1
      replace d2 := hide d2
      go_wp2
      go_region
      all_goals
        go_wp2
        go_roundw
        case rel => exact ⟨k + 1, by omega, by go_num, hide ((hset.out wr (Below.refl _ _)).stays (up_drew (up_alloc (Below.refl _ _) (Nat.le_refl _))))⟩
        case measure => simp [intOf]; omega
    · obtain rfl : k = m := by omega
      have r0 := hI.out.r0
      have r1 := hI.out.r1
      have f0 := hI.out.f0
      have f1 := hI.out.f1
      have hD := hide hI.out.done
      have hz1' := hI.out.low
      go_wp2
      refine bodyPost_ret (v := .agg #[.int .i64 (n : Int), .slice a0 k c0]) (by simp [results, Try.results104, go_sem, r0, r1, hzr]) rfl ⟨_, rfl, ?_, hD.out.2⟩
      rw [← flK_all, ← hm.out]
      exact hD.out.1
end Go.Proofs.Ytgkiipmeigfjnaa
