/-
  A part of the proof of ServePlays: SvA SvB
-/
import Derived.Test.YtccailcjclbhlaaGreatServePlaysA15
import Derived.Test.YtccailcjclbhlaaGreatServePlaysA6
import Derived.Test.YtccailcjclbhlaaGreatServePlaysA4
/-! serve.New, Ground, and its search. Conditions: stated with each. -/
namespace Go.Proofs.YtccailcjclbhlaaGreat
open Go.RowKit
set_option linter.unusedSimpArgs false
set_option linter.unusedVariables false
attribute [local instance] AFr.none
/-- the ground lies at the first cells of b -/
def Gd (W H : Int) (cs : List Int) (b : Nat) (w : World) : Prop := ∃ ga gc, w.cell? ⟨b, 0, none⟩ = some (.int .i64 W) ∧ w.cell? ⟨b, 1, none⟩ = some (.int .i64 H) ∧ w.cell? ⟨b, 2, none⟩ = some (.slice ga cs.length gc) ∧ Row encI 1 w w.heap.size ga cs
theorem PSx.gd {σ : Sv} {ef : Nat → List Ed} {svb gc : Nat} {ga : Option Addr} {xs : Nat → Option Nat} {W N : Nat → Nat → Prop} {w : World} (h : PSx σ ef svb ga gc xs W N w) : Gd σ.W σ.H σ.cs svb w := ⟨ga, gc, h.c0, h.c1, h.c2, h.row⟩
theorem RSx.gd {σ : Sv} {ef : Nat → List Ed} {rvb gc : Nat} {ga : Option Addr} {xs : Nat → AV} {W N : Nat → Nat → Prop} {w : World} (h : RSx σ ef rvb ga gc xs W N w) : Gd σ.W σ.H σ.cs rvb w := ⟨ga, gc, h.c0, h.c1, h.c2, h.row⟩
/-- a slice of numbers, made anew -/
def GridBack (W H : Int) (cs : List Int) (w : World) (e : Ending) (w' : World) : Prop := ∃ a c, e = .returned (.agg #[.int .i64 W, .int .i64 H, .slice a cs.length c]) ∧ Own encI 1 3 w' w.heap.size (.slice a cs.length c) cs ∧ Below w.heap.size w w'
set_option maxRecDepth 100000 in
set_option maxHeartbeats 2000000 in
theorem copied_any (W H : Int) (a : Option Addr) (cap : Nat) (cs : List Int) (w : World) (B : Nat) (hB : B ≤ w.heap.size) (hE : Row encI 1 w B a cs) (hl : cs.length ≤ 100000) :
    Calls Tryz.prog 10 #[.agg #[.int .i64 W, .int .i64 H, .slice a cs.length cap]] w (GridBack W H cs w) := by
  obtain ⟨m, hm⟩ : ∃ m, m = cs.length := ⟨_, rfl⟩
  unfold GridBack
  rw [← hm] at hl ⊢
  replace hm := hide hm
  replace hE := hide hE
  go_enter Tryz.func10, Tryz.ntmps10
  go_wp2
  obtain ⟨w0, h0⟩ : ∃ w0, w0 = ((w.alloc (.cells #[.int .i64 W, .int .i64 H, .slice a m cap] 24)).alloc (.cells #[.int .i64 0, .int .i64 0, .slice none 0 0] 24)) := ⟨_, rfl⟩
  have hB0 : Below w.heap.size w w0 := by rw [h0]; exact bel
  have k0 : w0.cell? ⟨w.heap.size, 0, none⟩ = some (.int .i64 W) := by rw [h0]; simp [go_sem]
  have k1 : w0.cell? ⟨w.heap.size, 1, none⟩ = some (.int .i64 H) := by rw [h0]; simp [go_sem]
  have k2 : w0.cell? ⟨w.heap.size, 2, none⟩ = some (.slice a m cap) := by rw [h0]; simp [go_sem]
  have r0 : w0.cell? ⟨w.heap.size + 1, 0, none⟩ = some (.int .i64 0) := by rw [h0]; simp [go_sem]
  have r1 : w0.cell? ⟨w.heap.size + 1, 1, none⟩ = some (.int .i64 0) := by rw [h0]; simp [go_sem]
  have r2 : w0.cell? ⟨w.heap.size + 1, 2, none⟩ = some (.slice none 0 0) := by rw [h0]; simp [go_sem]
  have f0 : w0.frozen? ⟨w.heap.size + 1, 0, none⟩ = false := by rw [h0]; simp [go_sem]
  have f1 : w0.frozen? ⟨w.heap.size + 1, 1, none⟩ = false := by rw [h0]; simp [go_sem]
  have f2 : w0.frozen? ⟨w.heap.size + 1, 2, none⟩ = false := by rw [h0]; simp [go_sem]
  have hz : w.heap.size + 1 < w0.heap.size := cell_lt r0
  have hz' : w.heap.size < w0.heap.size := by omega
  have hE0 := hide ((hE.out.below hB0 hB).mono (show B ≤ w0.heap.size by omega))
  simp only [← h0]
  replace hB0 := hide hB0
  clear h0
  go_region_law (first
    | (refine step_pushAll (base := w0.heap.size) (xs := ([] : List Int)) (v := .slice none 0 0) rfl (.const (.slice none 0 0)) (.tmp 8) 22 rfl _ 8 Tryz.underlying22 info_int rfl (by omega) lenI oneI 0 rfl rfl (Own.nil _ _) w0.heap.size a m cap cs hm.out.symm rfl ?_ (by omega) (by unfold maxLen; omega) (Nat.le_refl _) ?_; (next => first | exact hE0.out | exact hE0.out.below (below_drew _) (Nat.le_refl _)); intro a4 c4 w4 own4 hb4 hg4; have j0 := cu_below hb4 r0 hz; have j1 := cu_below hb4 r1 hz; have j5 := cu_below hb4 r2 hz; have j2 := fu_below hb4 f0 hz; have j3 := fu_below hb4 f1 hz; have j4 := fu_below hb4 f2 hz; have hz4 := hb4.size; have i0 := cu_below hb4 k0 hz'; have i1 := cu_below hb4 k1 hz'; have i2 := cu_below hb4 k2 hz'))
  all_goals
    have hb4' : Below w0.heap.size w0 w4 := by first | exact hb4 | exact (below_drew w0).trans hb4
    have own5 : Own encI 1 3 w4 w0.heap.size (.slice a4 m c4) cs := by simpa using own4
    have hne : ∀ {b : Nat}, b < w0.heap.size → (Value.slice a4 m c4).ownBlock ≠ some b := fun {b} hb e => by have := (own5.block_lt b e).1; omega
    have own6 := hide ((((own5.elsewhere (p := ⟨w.heap.size + 1, 0, none⟩) (hne hz) (.int .i64 W)).elsewhere (p := ⟨w.heap.size + 1, 1, none⟩) (hne hz) (.int .i64 H)).elsewhere (p := ⟨w.heap.size + 1, 2, none⟩) (hne hz) (.slice a4 m c4)).base_le (show w.heap.size ≤ w0.heap.size by omega))
    have hbf := hide ((((hB0.out.trans (hb4'.mono (by omega))).setCell (p := ⟨w.heap.size + 1, 0, none⟩) (by simp) (.int .i64 W)).setCell (p := ⟨w.heap.size + 1, 1, none⟩) (by simp) (.int .i64 H)).setCell (p := ⟨w.heap.size + 1, 2, none⟩) (by simp) (.slice a4 m c4))
    clear own4 own5 hne hb4 hb4' hg4
    go_wp2
    refine bodyPost_ret (v := .agg #[.int .i64 W, .int .i64 H, .slice a4 m c4]) (by simp [results, Tryz.results10, go_sem, j0, j1, j5, hz4]) rfl ⟨a4, c4, rfl, own6.out, hbf.out⟩
theorem sground_any (W H : Int) (cs : List Int) (svb : Nat) (w : World) (hG : Gd W H cs svb w) (hl : cs.length ≤ 100000) :
    Calls Tryz.prog 24 #[.pointer (some ⟨svb, 0, none⟩)] w (GridBack W H cs w) := by
  obtain ⟨ga, gc, c0, c1, c2, hr⟩ := hG
  have z0 := cell_lt c0
  simp only at z0
  have hC := hide (fun (w' : World) (hb : Below w.heap.size w w') => copied_any W H ga gc cs w' w.heap.size hb.size (hr.below hb (Nat.le_refl _)) hl)
  obtain ⟨m, hm⟩ : ∃ m, m = cs.length := ⟨_, rfl⟩
  unfold GridBack at *
  rw [← hm] at c2 hC ⊢
  replace hm := hide hm
  clear hr hl
  go_enter Tryz.func24, Tryz.ntmps24
  go_wp2_with fail
  refine (hC.out _ (by exact bel)).mono ?_
  rintro e w1 ⟨a, c, rfl, own, hb⟩
  have hb1 := hide ((bel : Below w.heap.size w (w.alloc (.cells #[.int .i64 0, .int .i64 0, .slice none 0 0] 24))).trans (hb.mono (by simp)))
  have r0 := cu_below hb (p := ⟨w.heap.size, 0, none⟩) (v := .int .i64 0) (by simp [go_sem]) (by simp)
  have r1 := cu_below hb (p := ⟨w.heap.size, 1, none⟩) (v := .int .i64 0) (by simp [go_sem]) (by simp)
  have r2 := cu_below hb (p := ⟨w.heap.size, 2, none⟩) (v := .slice none 0 0) (by simp [go_sem]) (by simp)
  have f0 := fu_below hb (p := ⟨w.heap.size, 0, none⟩) (by simp [go_sem]) (by simp)
  have f1 := fu_below hb (p := ⟨w.heap.size, 1, none⟩) (by simp [go_sem]) (by simp)
  have f2 := fu_below hb (p := ⟨w.heap.size, 2, none⟩) (by simp [go_sem]) (by simp)
  have hz1 : w.heap.size < w1.heap.size := cell_lt r0
  have hne : (Value.slice a m c).ownBlock ≠ some w.heap.size := fun e => by have := (own.block_lt _ e).1; (try simp at this); omega
  have own6 := hide ((((own.elsewhere (p := ⟨w.heap.size, 0, none⟩) hne (.int .i64 W)).elsewhere (p := ⟨w.heap.size, 1, none⟩) hne (.int .i64 H)).elsewhere (p := ⟨w.heap.size, 2, none⟩) hne (.slice a m c)).base_le (show w.heap.size ≤ _ by simp))
  have hbf := hide (((hb1.out.setCell (p := ⟨w.heap.size, 0, none⟩) (by simp) (.int .i64 W)).setCell (p := ⟨w.heap.size, 1, none⟩) (by simp) (.int .i64 H)).setCell (p := ⟨w.heap.size, 2, none⟩) (by simp) (.slice a m c))
  clear own hne hb hb1 hC
  go_wp2
  refine bodyPost_ret (v := .agg #[.int .i64 W, .int .i64 H, .slice a m c]) (by simp [results, Tryz.results24, go_sem, r0, r1, r2, hz1]) rfl ⟨a, c, rfl, own6.out, hbf.out⟩
theorem snew_bad (W H : Int) (a : Option Addr) (cap : Nat) (cs : List Int) (w : World) (B : Nat) (hB : B ≤ w.heap.size) (hE : Row encI 1 w B a cs) (hl : cs.length ≤ 9223372036854775807) (h0 : gridErr W H cs ≠ 0) :
    Calls Tryz.prog 4 #[.agg #[.int .i64 W, .int .i64 H, .slice a cs.length cap]] w fun e w' => e = .returned (.tuple #[.pointer none, .int .i64 (gridErr W H cs)]) ∧ Below w.heap.size w w' := by
  have hC := hide (fun (w' : World) (hb : Below w.heap.size w w') => gcheck_any W H a cap cs w' B (Nat.le_trans hB hb.size) (hE.below hb hB) hl)
  obtain ⟨er, her⟩ : ∃ er, er = gridErr W H cs := ⟨_, rfl⟩
  obtain ⟨m, hm⟩ : ∃ m, m = cs.length := ⟨_, rfl⟩
  rw [← her] at h0 hC ⊢
  rw [← hm] at hC ⊢
  have q0 : (er != 0) = true := by simp [h0]
  replace her := hide her
  replace hm := hide hm
  clear hE hl h0
  go_enter Tryz.func4, Tryz.ntmps4
  go_wp2_with fail
  refine (hC.out _ (by exact bel)).mono ?_
  rintro e w1 ⟨rfl, hb1⟩
  go_wp2
  refine bodyPost_ret (v := .tuple #[.pointer none, .int .i64 er]) (by simp [results, Tryz.results4, go_sem]) rfl ⟨rfl, bel⟩
theorem PSv.fresh {W H : Int} {cs : List Int} {ga : Option Addr} {gc b0 : Nat} {w1 : World} {ty : TypeId} (h0 : gridErr W H cs = 0) (own : Own encI 1 3 w1 b0 (.slice ga cs.length gc) cs) (hb : b0 ≤ w1.heap.size) :
    PSv (sv0 W H cs) w1.heap.size (fun j => j = w1.heap.size ∨ (Value.slice ga cs.length gc).ownBlock = some j) (w1.alloc (.cells #[.int .i64 W, .int .i64 H, .slice ga cs.length gc, .pointer none, .pointer none, .pointer none, .pointer none, .pointer none, .pointer none, .int .i64 0] ty)) := by
  have hlt := fun j => own.block_lt j
  refine ⟨⟨h0, by show 0 < 6; omega, fun i q _ h => by cases h⟩, fun j hj => ?_, ga, gc, fun _ => none, fun i j => (i = 6 ∧ j = w1.heap.size) ∨ (i = 7 ∧ (Value.slice ga cs.length gc).ownBlock = some j), fun _ _ => False, ⟨⟨fun i j q => ?_, fun i k j q r => ?_, fun _ _ _ _ h => h⟩, by simp [go_sem]; rfl, by simp [go_sem]; rfl, by simp [go_sem]; rfl, fun i hi => ?_, by simp [go_sem]; rfl, fun o => by simp [go_sem], .inl ⟨rfl, rfl⟩, (own.alloc _).base_le (Nat.zero_le _), fun j e => .inr ⟨rfl, e⟩, fun i hi => .inl ⟨rfl, rfl⟩⟩, fun i j q => ?_⟩
  · rcases hj with rfl | hj
    · simp
    · have := (hlt j hj).2; simp; omega
  · rcases q with (⟨_, rfl⟩ | ⟨_, q⟩) | q
    · simp
    · have := (hlt j q).2; simp; omega
    · exact q.elim
  · rcases q with ⟨rfl, rfl⟩ | ⟨rfl, q⟩ <;> rcases r with ⟨rfl, r⟩ | ⟨rfl, r⟩
    · rfl
    · have := (hlt _ r).2; omega
    · have := (hlt _ q).2; omega
    · rfl
  · match i, hi with
    | 0, _ => simp [go_sem, xP]
    | 1, _ => simp [go_sem, xP]
    | 2, _ => simp [go_sem, xP]
    | 3, _ => simp [go_sem, xP]
    | 4, _ => simp [go_sem, xP]
    | 5, _ => simp [go_sem, xP]
  · rcases q with (⟨_, q⟩ | ⟨_, q⟩) | q
    · exact .inl q
    · exact .inr q
    · exact q.elim
theorem snew_ok (W H : Int) (a : Option Addr) (cap : Nat) (cs : List Int) (w : World) (B : Nat) (hB : B ≤ w.heap.size) (hE : Row encI 1 w B a cs) (hl : cs.length ≤ 100000) (h0 : gridErr W H cs = 0) :
    Calls Tryz.prog 4 #[.agg #[.int .i64 W, .int .i64 H, .slice a cs.length cap]] w fun e w' => ∃ svb P, e = .returned (.tuple #[.pointer (some ⟨svb, 0, none⟩), .int .i64 0]) ∧ PSv (sv0 W H cs) svb P w' ∧ (∀ j, P j → w.heap.size ≤ j) ∧ Below w.heap.size w w' := by
  have hC := hide (fun (w' : World) (hb : Below w.heap.size w w') => gcheck_any W H a cap cs w' B (Nat.le_trans hB hb.size) (hE.below hb hB) (by omega))
  have hD := hide (fun (w' : World) (hb : Below w.heap.size w w') => copied_any W H a cap cs w' B (Nat.le_trans hB hb.size) (hE.below hb hB) hl)
  have hF := hide (fun (ga : Option Addr) (gc b0 : Nat) (w1 : World) (ty : TypeId) own hb => PSv.fresh (ga := ga) (gc := gc) (b0 := b0) (w1 := w1) (ty := ty) h0 own hb)
  rw [h0] at hC
  obtain ⟨m, hm⟩ : ∃ m, m = cs.length := ⟨_, rfl⟩
  unfold GridBack at hD
  rw [← hm] at hC hD hF ⊢
  replace hm := hide hm
  clear hE hl h0
  go_enter Tryz.func4, Tryz.ntmps4
  go_wp2_with fail
  refine (hC.out _ (by exact bel)).mono ?_
  rintro e w1 ⟨rfl, hb1⟩
  have k0 := cu_below hb1 (p := ⟨w.heap.size, 0, none⟩) (v := .int .i64 W) (by simp [go_sem]) (by simp)
  have k1 := cu_below hb1 (p := ⟨w.heap.size, 1, none⟩) (v := .int .i64 H) (by simp [go_sem]) (by simp)
  have k2 := cu_below hb1 (p := ⟨w.heap.size, 2, none⟩) (v := .slice a m cap) (by simp [go_sem]) (by simp)
  have hb2 := hide (((bel : Below w.heap.size w _)).trans (hb1.mono (by simp)))
  have hz1 : w.heap.size < w1.heap.size := cell_lt k0
  clear hb1 hC
  go_wp2_with fail
  refine (hD.out _ hb2.out).mono ?_
  rintro e w2 ⟨ga, gc, rfl, own, hb3⟩
  have hb4 := hide (hb2.out.trans (hb3.mono hb2.out.size))
  have hz2 := hb3.size
  have hown := hide own
  have hbl := hide (fun j hj => (own.block_lt j hj).1)
  clear hb2 hb3 own hD k0 k1 k2
  go_wp2
  refine bodyPost_ret (v := .tuple #[.pointer (some ⟨w2.heap.size, 0, none⟩), .int .i64 0]) (by simp [results, Tryz.results4, go_sem]) rfl ?_
  refine ⟨w2.heap.size, _, rfl, hF.out ga gc w1.heap.size w2 41 hown.out hz2, fun j hj => ?_, hb4.out.alloc (by omega) _⟩
  rcases hj with rfl | hj
  · omega
  · have := hbl.out j hj; omega
/-- a search begun: what is its own and what it reads lie apart -/
theorem anew_obj2 {n v t : Nat} {es : List Ed} {h : Nat → Int} {ws : List P2} {w0 w' : World} {e : Ending} (hN : NewAns n t es h ws v w0 e w') : ∃ sb s' A C, e = .returned (.tuple #[.pointer (some ⟨sb, 0, none⟩), .int .i64 0]) ∧ ASettle ws es h n t (aStart h v) s' ∧ AObj n t es h ws s' sb A C w' ∧ (∀ j, A j ∨ C j → w0.heap.size ≤ j) ∧ Below w0.heap.size w0 w' ∧ (∀ j, C j → j < w'.heap.size) ∧ ∀ j, A j → ¬ C j := by
  obtain ⟨sb, gc, gp, gd, gh, ec, hc, wc, ae, ha, aw, O, lo, hi, wS, s', rfl, hAC, hOu, hdis, hst, hA, hin, htl, hBel, l1, l2, l3, l4⟩ := hN
  obtain ⟨sx, h1, h2, h3, a1, q1, c1, f1, al, ll, lc, ls, ar, tt, rc, ros, hX, hr⟩ := hA
  have hkk := @AX.keep AFr.none _ _ _ _ _ _ _ _ _ _ _ _ _ _ _ _ _ _ _ _ _ hX
  have hb := hBel w' hkk
  have hl := @AX.lt AFr.none _ _ _ _ _ _ _ _ _ _ _ _ _ _ _ _ _ _ _ _ _ hX
  have hz := hkk.size
  have hzw : w0.heap.size ≤ wS.heap.size := (hBel wS (Keep.refl _ _)).size
  have hhi : hi ≤ wS.heap.size := by obtain ⟨_, _, _, q, _⟩ := hOu; exact q
  have hhp := (@AX.heap AFr.none _ _ _ _ _ _ _ _ _ _ _ _ _ _ _ _ _ _ _ _ _ hX).own
  have hhs := @AX.hs AFr.none _ _ _ _ _ _ _ _ _ _ _ _ _ _ _ _ _ _ _ _ _ hX
  have hla := @AX.late AFr.none _ _ _ _ _ _ _ _ _ _ _ _ _ _ _ _ _ _ _ _ _ hX
  have hrn := @AX.rnds AFr.none _ _ _ _ _ _ _ _ _ _ _ _ _ _ _ _ _ _ _ _ _ hX
  have hto := @AX.told AFr.none _ _ _ _ _ _ _ _ _ _ _ _ _ _ _ _ _ _ _ _ _ hX
  refine ⟨sb, s', fun j => AOwn sb gc gp gd gh (.slice a1 q1 c1) (.slice al ll lc) (.slice ar tt rc) ros j, fun j => CB es ae ha aw j ∨ (lo ≤ j ∧ j < hi), rfl, hst, ⟨gc, gp, gd, gh, hc, wc, ec, ha, aw, ae, O, lo, hi, wS, hAC, hOu, hdis, hin, htl, ⟨sx, h1, h2, h3, a1, q1, c1, f1, al, ll, lc, ls, ar, tt, rc, ros, hX, fun j hj => hj, hr⟩, fun j hj => .inl hj, fun j j1 j2 => .inr ⟨j1, j2⟩, fun j hj => ?_, fun b o e _ => l4 b o e⟩, fun j hj => ?_, hb, fun j hj => ?_, fun j hj hc => ?_⟩
  · rcases hj with g | g | g | g | g
    · unfold AXb at g; omega
    · exact (hhp.block_lt j g).2
    · exact (hla.block_lt j g).2
    · exact (hrn.block_lt j g).2
    · exact (hto.lt g).2
  · rcases hj with (g | g | g | g | g) | g | g
    · exact l1 j g
    · exact Nat.le_trans hzw (hhs j g)
    · exact Nat.le_trans hzw (hla.block_lt j g).1
    · exact Nat.le_trans hzw (hrn.block_lt j g).1
    · exact Nat.le_trans hzw (hto.lt g).1
    · exact (l2 j g).1
    · omega
  · rcases hj with g | g
    · exact Nat.lt_of_lt_of_le (l2 j g).2 hz
    · omega
  · have hlt : j < wS.heap.size := by
      rcases hc with g | g
      · exact (l2 j g).2
      · omega
    rcases hj with g | g | g | g | g
    · rcases hc with (⟨_, o, e⟩ | ⟨o, e⟩ | ⟨o, e⟩) | ⟨g1, g2⟩
      · exact l4 j o e g
      · exact hAC.hx j o e g
      · exact hAC.wx j o e g
      · exact hdis j g1 g2 g
    · have := hhs j g; omega
    · have := (hla.block_lt j g).1; omega
    · have := (hrn.block_lt j g).1; omega
    · have := (hto.lt g).1; omega
def Srch (es : List Ed) (n f t : Nat) (ws : List P2) (w : World) (e : Ending) (w' : World) : Prop := ∃ sb A C, e = .returned (.tuple #[.pointer (some ⟨sb, 0, none⟩), .int .i64 0]) ∧ AObj n t es hZ ws (sBegin es n f t ws) sb A C w' ∧ (∀ j, A j ∨ C j → w.heap.size ≤ j) ∧ Below w.heap.size w w' ∧ (∀ j, C j → j < w'.heap.size) ∧ ∀ j, A j → ¬ C j
theorem anew_z_ok (n f t el : Nat) (a : Option Addr) (cap : Nat) (es : List Ed) (hel : es.length = el) (ah : Option Addr) (ch : Nat) (aw : Option Addr) (m cw : Nat) (ws : List P2) (hm : ws.length = m) (w : World) (hE : Row encE 3 w w.heap.size a es) (hH : Row encI 1 w w.heap.size ah (LI n hZ)) (hW : Row encP 2 w w.heap.size aw ws) (hl : el ≤ 100000) (hn : n ≤ 64) (h0 : lookErr (n : Int) es [(f : Int), (t : Int)] = 0) (h1 : wsErr ws = 0) :
    Calls Tryz.prog 43 #[.agg #[.int .i64 (n : Int), .slice a el cap], .int .i64 (f : Int), .int .i64 (t : Int), .slice ah n ch, .slice aw m cw] w (Srch es n f t ws w) := by
  subst hel
  have h := anew_ok n f t a cap es ah ch (List.replicate n 0) aw m cw ws hm w w.heap.size (Nat.le_refl _) hE (by rw [← li_hZ]; exact hH) hW (by omega) (by simp; omega) (by rw [slook_zero]; exact h0) h1
  rw [List.length_replicate, hAt_rep] at h
  refine h.mono ?_
  intro e w' hN
  obtain ⟨sb, s', A, C, g1, g2, g3, g4, g5, g6, g7⟩ := anew_obj2 hN
  rw [sBegin_is g2] at g3
  exact ⟨sb, A, C, g1, g3, g4, g5, g6, g7⟩
theorem anew_z_bad (n el : Nat) (f t : Int) (a : Option Addr) (cap : Nat) (es : List Ed) (hel : es.length = el) (ah : Option Addr) (ch : Nat) (aw : Option Addr) (m cw : Nat) (ws : List P2) (hm : ws.length = m) (w : World) (hE : Row encE 3 w w.heap.size a es) (hH : Row encI 1 w w.heap.size ah (LI n hZ)) (hW : Row encP 2 w w.heap.size aw ws) (hl : el ≤ 100000) (hn : n ≤ 64) (er : Int) (her : er = if lookErr (n : Int) es [f, t] ≠ 0 then lookErr (n : Int) es [f, t] else wsErr ws) (h0 : er ≠ 0) :
    Calls Tryz.prog 43 #[.agg #[.int .i64 (n : Int), .slice a el cap], .int .i64 f, .int .i64 t, .slice ah n ch, .slice aw m cw] w fun e w' => e = .returned (.tuple #[.pointer none, .int .i64 er]) ∧ Below w.heap.size w w' := by
  subst hel
  have h := anew_bad (n : Int) a cap es f t ah ch (List.replicate n 0) aw m cw ws hm w w.heap.size (Nat.le_refl _) hE (by rw [← li_hZ]; exact hH) hW (by omega) (by simp; omega) er (by rw [slook_zero]; exact her) h0
  rw [List.length_replicate] at h
  exact h
/-- a request as a value -/
def askV (f t : Int) (aw : Option Addr) (m cw : Nat) (rv : RV) (b : Bool) : Value := .agg #[.int .i64 f, .int .i64 t, .slice aw m cw, .int .i64 rv.na, .int .i64 rv.nb, .slice rv.pa rv.pm rv.pc, .int .i64 rv.rc, .int .i64 rv.dn, .bool b]
section
variable {W H : Int} {cs : List Int} {svb : Nat} {w : World}
set_option maxRecDepth 100000 in
set_option maxHeartbeats 4000000 in
/-- whatever is so of New is so of the search -/
theorem psearch_any (hG : Gd W H cs svb w) (h0 : gridErr W H cs = 0) (f t : Int) (aw : Option Addr) (m cw : Nat) (rv : RV) (b : Bool) (n : Nat) (es0 : List Ed) (hn : n = cs.length) (hes : es0 = gridNet W H cs cs.length) (Q : World → Value → World → Prop)
    (hNew : ∀ w1 a cap ah ch, Below w.heap.size w w1 → Row encE 3 w1 w1.heap.size a es0 → Row encI 1 w1 w1.heap.size ah (LI n hZ) → Calls Tryz.prog 43 #[.agg #[.int .i64 (n : Int), .slice a es0.length cap], .int .i64 f, .int .i64 t, .slice ah n ch, .slice aw m cw] w1 fun e w' => ∃ pv er, e = .returned (.tuple #[.pointer pv, .int .i64 er]) ∧ Below w1.heap.size w1 w' ∧ Q w1 (.tuple #[.pointer pv, .int .i64 er]) w') :
    Calls Tryz.prog 25 #[.pointer (some ⟨svb, 0, none⟩), askV f t aw m cw rv b] w fun e w' => ∃ w1 v, e = .returned v ∧ Below w.heap.size w w1 ∧ Below w1.heap.size w1 w' ∧ Q w1 v w' := by
  obtain ⟨ga, gc, c0, c1, c2, hr⟩ := hG
  have z0 := cell_lt c0
  simp only at z0
  obtain ⟨b1, b2, b3, b4, hcl, hcs⟩ := gridErr_ok h0
  have hn64 : n ≤ 64 := by
    have : W * H ≤ 8 * 8 := Int.mul_le_mul b2 b4 (by omega) (by omega)
    omega
  have hmk := fun w => run_zeros w n (by omega)
  have hO := hide (fun (w' : World) (hb : Below w.heap.size w w') => netof_ok W H ga gc cs w' w.heap.size hb.size (hr.below hb (Nat.le_refl _)) h0)
  rw [← hes, ← hn] at hO
  rw [← hn] at c2
  obtain ⟨el, hel⟩ : ∃ el, el = es0.length := ⟨_, rfl⟩
  rw [← hel] at hNew
  replace hNew := hide hNew
  replace hel := hide hel
  replace hes := hide hes
  replace hn := hide hn
  clear hr h0 hcs hcl b1 b2 b3 b4
  unfold askV
  go_enter Tryz.func25, Tryz.ntmps25
  go_wp2_with fail
  refine (hO.out _ (by exact bel)).mono ?_
  rintro e w1 ⟨v1, rfl, own, hb⟩
  obtain ⟨a1, c1', rfl⟩ := own.shape hel.out.symm
  obtain ⟨bx, hbx⟩ : ∃ bx, bx = w.heap.size := ⟨_, rfl⟩
  have x0 := cu_below hb (p := ⟨bx, 0, none⟩) (v := .int .i64 f) (by rw [hbx]; simp [go_sem]) (by rw [hbx]; simp)
  have x1 := cu_below hb (p := ⟨bx, 1, none⟩) (v := .int .i64 t) (by rw [hbx]; simp [go_sem]) (by rw [hbx]; simp)
  have x2 := cu_below hb (p := ⟨bx, 2, none⟩) (v := .slice aw m cw) (by rw [hbx]; simp [go_sem]) (by rw [hbx]; simp)
  have hb2 := hide (((bel : Below w.heap.size w _)).trans (hb.mono (by simp)))
  have hown := hide own
  have hz1 : bx < w1.heap.size := cell_lt x0
  clear hb own hO
  go_upto_region 2 with fail
  obtain ⟨w2, hw2⟩ : ∃ w2, w2 = w1.alloc (.cells #[.int .i64 (n : Int), .slice a1 el c1'] 77) := ⟨_, rfl⟩
  obtain ⟨by', hby⟩ : ∃ by', by' = w1.heap.size := ⟨_, rfl⟩
  have hb12 : Below w1.heap.size w1 w2 := by rw [hw2]; exact (Below.refl _ _).alloc (Nat.le_refl _) _
  have y0 : w2.cell? ⟨by', 0, none⟩ = some (.int .i64 (n : Int)) := by rw [hw2, hby]; simp [go_sem]
  have y1 : w2.cell? ⟨by', 1, none⟩ = some (.slice a1 el c1') := by rw [hw2, hby]; simp [go_sem]
  have x0 := cu_below hb12 x0 hz1
  have x1 := cu_below hb12 x1 hz1
  have x2 := cu_below hb12 x2 hz1
  obtain ⟨a1', c2', hv1, hrow, _⟩ := hown.out.row lenE
  rw [← hel.out] at hv1
  cases hv1
  have hrow2 := hide ((hrow.below hb12 (Nat.le_refl _)).mono hb12.size)
  have hb3 := hide (hb2.out.trans (hb12.mono hb2.out.size))
  have zx : bx < w2.heap.size := cell_lt x0
  have zy : by' < w2.heap.size := cell_lt y0
  have key := hide (show ∀ w', Below w2.heap.size w2 w' → (Below w2.heap.size w2 w' ∧ w'.cell? ⟨bx, 0, none⟩ = some (.int .i64 f) ∧ w'.cell? ⟨bx, 1, none⟩ = some (.int .i64 t) ∧ w'.cell? ⟨bx, 2, none⟩ = some (.slice aw m cw) ∧ w'.cell? ⟨by', 0, none⟩ = some (.int .i64 (n : Int)) ∧ w'.cell? ⟨by', 1, none⟩ = some (.slice a1 el c1')) from
    fun w' hb => ⟨hb, cu_below hb x0 zx, cu_below hb x1 zx, cu_below hb x2 zx, cu_below hb y0 zy, cu_below hb y1 zy⟩)
  simp only [← hw2]
  simp only [← hby]
  simp only [← hbx]
  replace hw2 := hide hw2
  replace hby := hide hby
  replace hbx := hide hbx
  clear hb12 hrow hown hb2 x0 x1 x2 y0 y1 c0 c1 c2
  go_region_held3 (fun w' => Below w2.heap.size w2 w' ∧ w'.cell? ⟨bx, 0, none⟩ = some (.int .i64 f) ∧ w'.cell? ⟨bx, 1, none⟩ = some (.int .i64 t) ∧ w'.cell? ⟨bx, 2, none⟩ = some (.slice aw m cw) ∧ w'.cell? ⟨by', 0, none⟩ = some (.int .i64 (n : Int)) ∧ w'.cell? ⟨by', 1, none⟩ = some (.slice a1 el c1'))
    (first | exact key.out _ (below_drew _) | exact key.out _ (by assumption) | exact key.out _ (up_alloc_self (below_drew _)) | exact key.out _ (up_alloc_self (And.left (by assumption))) | exact key.out _ (up_alloc_self (by assumption)))
    (first | (go_at_call 43; have hb4 := (‹_ ∧ _› : _ ∧ _).1; refine (hNew.out _ a1 c1' _ n (hb3.out.trans (hb4.mono hb3.out.size)) ((hrow2.out.below hb4 (Nat.le_refl _)).mono hb4.size) (own_row (own_zeros _ _ n (Nat.le_refl _) (by omega)))).mono ?_; rintro e w4 ⟨pv, er, rfl, hb5, hQ⟩; have hb6 := below_step hb4 hb5))
  all_goals
    go_wp2
    refine bodyPost_ret (v := .tuple #[.pointer pv, .int .i64 er]) (by simp [results, Tryz.results25, go_sem]) rfl ⟨_, _, rfl, hb3.out.trans (hb4.mono hb3.out.size), hb5, hQ⟩
theorem Srch.up {es : List Ed} {n f t : Nat} {ws : List P2} {w w1 : World} {e : Ending} {w' : World} (h : Srch es n f t ws w1 e w') (hb : Below w.heap.size w w1) : Srch es n f t ws w e w' := by
  obtain ⟨sb, A, C, h1, h2, h3, h4, h5⟩ := h
  exact ⟨sb, A, C, h1, h2, fun j hj => Nat.le_trans hb.size (h3 j hj), hb.trans (h4.mono hb.size), h5⟩
theorem psearch_ok (hG : Gd W H cs svb w) (h0 : gridErr W H cs = 0) (f t : Nat) (aw : Option Addr) (m cw : Nat) (rv : RV) (b : Bool) (ws : List P2) (hm : ws.length = m) (hW : Row encP 2 w w.heap.size aw ws) (hlk : lookErr (cs.length : Int) (gridNet W H cs cs.length) [(f : Int), (t : Int)] = 0) (h1 : wsErr ws = 0) (hn : cs.length ≤ 64) :
    Calls Tryz.prog 25 #[.pointer (some ⟨svb, 0, none⟩), askV (f : Int) (t : Int) aw m cw rv b] w (Srch (gridNet W H cs cs.length) cs.length f t ws w) := by
  have hl := gridNet_len W H cs cs.length
  refine (psearch_any hG h0 (f : Int) (t : Int) aw m cw rv b cs.length _ rfl rfl (fun w1 v w' => Srch (gridNet W H cs cs.length) cs.length f t ws w1 (.returned v) w') (fun w1 a cap ah ch hb hE hH => ?_)).mono ?_
  · refine (anew_z_ok cs.length f t _ a cap _ rfl ah ch aw m cw ws hm w1 hE hH ((hW.below hb (Nat.le_refl _)).mono hb.size) (by omega) hn hlk h1).mono ?_
    rintro e w' ⟨sb, A, C, rfl, g2, g3, g4, g5, g6⟩
    exact ⟨_, _, rfl, g4, sb, A, C, rfl, g2, g3, g4, g5, g6⟩
  · rintro e w' ⟨w1, v, rfl, g1, g2, g3⟩
    exact g3.up g1
theorem psearch_bad (hG : Gd W H cs svb w) (h0 : gridErr W H cs = 0) (f t : Int) (aw : Option Addr) (m cw : Nat) (rv : RV) (b : Bool) (ws : List P2) (hm : ws.length = m) (hW : Row encP 2 w w.heap.size aw ws) (hn : cs.length ≤ 64) (er : Int) (her : er = if lookErr (cs.length : Int) (gridNet W H cs cs.length) [f, t] ≠ 0 then lookErr (cs.length : Int) (gridNet W H cs cs.length) [f, t] else wsErr ws) (hne : er ≠ 0) :
    Calls Tryz.prog 25 #[.pointer (some ⟨svb, 0, none⟩), askV f t aw m cw rv b] w fun e w' => e = .returned (.tuple #[.pointer none, .int .i64 er]) ∧ Below w.heap.size w w' := by
  have hl := gridNet_len W H cs cs.length
  refine (psearch_any hG h0 f t aw m cw rv b cs.length _ rfl rfl (fun w1 v w' => v = .tuple #[.pointer none, .int .i64 er]) (fun w1 a cap ah ch hb hE hH => ?_)).mono ?_
  · refine (anew_z_bad cs.length _ f t a cap _ rfl ah ch aw m cw ws hm w1 hE hH ((hW.below hb (Nat.le_refl _)).mono hb.size) (by omega) hn er her hne).mono ?_
    rintro e w' ⟨rfl, g4⟩
    exact ⟨_, _, rfl, g4, rfl⟩
  · rintro e w' ⟨w1, v, rfl, g1, g2, rfl⟩
    exact ⟨rfl, g1.trans (g2.mono g1.size)⟩
end
end Go.Proofs.YtccailcjclbhlaaGreat
/-! serve's Ask and Drop: what they answer and leave. Conditions: at most 1048576 weights. -/
namespace Go.Proofs.YtccailcjclbhlaaGreat
open Go.RowKit
set_option linter.unusedSimpArgs false
set_option linter.unusedVariables false
theorem ix_0 (p0 p1 p2 p3 p4 p5 : Value) (w : World) : (Instr.index 39 (.agg #[p0, p1, p2, p3, p4, p5]) (.int .i64 0)).run Tryz.prog w = .ok p0 w := by kernel_rfl
theorem ix_1 (p0 p1 p2 p3 p4 p5 : Value) (w : World) : (Instr.index 39 (.agg #[p0, p1, p2, p3, p4, p5]) (.int .i64 1)).run Tryz.prog w = .ok p1 w := by kernel_rfl
theorem ix_2 (p0 p1 p2 p3 p4 p5 : Value) (w : World) : (Instr.index 39 (.agg #[p0, p1, p2, p3, p4, p5]) (.int .i64 2)).run Tryz.prog w = .ok p2 w := by kernel_rfl
theorem ix_3 (p0 p1 p2 p3 p4 p5 : Value) (w : World) : (Instr.index 39 (.agg #[p0, p1, p2, p3, p4, p5]) (.int .i64 3)).run Tryz.prog w = .ok p3 w := by kernel_rfl
theorem ix_4 (p0 p1 p2 p3 p4 p5 : Value) (w : World) : (Instr.index 39 (.agg #[p0, p1, p2, p3, p4, p5]) (.int .i64 4)).run Tryz.prog w = .ok p4 w := by kernel_rfl
theorem ix_5 (p0 p1 p2 p3 p4 p5 : Value) (w : World) : (Instr.index 39 (.agg #[p0, p1, p2, p3, p4, p5]) (.int .i64 5)).run Tryz.prog w = .ok p5 w := by kernel_rfl
/-- where a slot points to -/
def adr (x : Option Nat) : Option Addr := x.map fun b => ⟨b, 0, none⟩
theorem ix_at (xs : Nat → Option Nat) (k : Nat) (hk : k < 6) (w : World) : (Instr.index 39 (.agg #[.pointer (adr (xs 0)), .pointer (adr (xs 1)), .pointer (adr (xs 2)), .pointer (adr (xs 3)), .pointer (adr (xs 4)), .pointer (adr (xs 5))]) (.int .i64 (k : Int))).run Tryz.prog w = .ok (.pointer (adr (xs k))) w := by
  match k, hk with
  | 0, _ => exact ix_0 _ _ _ _ _ _ w
  | 1, _ => exact ix_1 _ _ _ _ _ _ w
  | 2, _ => exact ix_2 _ _ _ _ _ _ w
  | 3, _ => exact ix_3 _ _ _ _ _ _ w
  | 4, _ => exact ix_4 _ _ _ _ _ _ w
  | 5, _ => exact ix_5 _ _ _ _ _ _ w
theorem at_out {σ : Sv} {id : Int} (h : id < 0 ∨ 6 ≤ id) : σ.at id = none := by unfold Sv.at; rw [if_neg (by omega)]
theorem at_in {σ : Sv} {k : Nat} (h : k < 6) : σ.at (k : Int) = σ.sl k := by unfold Sv.at; rw [if_pos (by omega)]; rfl
theorem PSx.noneAt {σ : Sv} {ef : Nat → List Ed} {svb gc : Nat} {ga : Option Addr} {xs : Nat → Option Nat} {W N : Nat → Nat → Prop} {w : World} (h : PSx σ ef svb ga gc xs W N w) {k : Nat} (hk : k < 6) (e : σ.sl k = none) : xs k = none := by
  rcases h.sl k hk with ⟨h1, h2⟩ | ⟨q, x, h1, h2, h3⟩
  · exact h2
  · rw [e] at h1; cases h1
theorem PSx.someAt {σ : Sv} {ef : Nat → List Ed} {svb gc : Nat} {ga : Option Addr} {xs : Nat → Option Nat} {W N : Nat → Nat → Prop} {w : World} (h : PSx σ ef svb ga gc xs W N w) {k : Nat} (hk : k < 6) {q : Sq} (e : σ.sl k = some q) : ∃ x, xs k = some x ∧ PQ (ef k) σ.cs.length q x (W k) (N k) w := by
  rcases h.sl k hk with ⟨h1, h2⟩ | ⟨q', x, h1, h2, h3⟩
  · rw [e] at h1; cases h1
  · rw [e] at h1; cases h1; exact ⟨x, h2, h3⟩
theorem upz_self {α : Type} (f : Nat → α) (k : Nat) : upz f k (f k) = f := by funext v; unfold upz; split <;> simp_all
/-- what a method leaves -/
def PLeft (σ' : Sv) (svb : Nat) (P : Nat → Prop) (w w' : World) : Prop := PSv σ' svb (grown P w w') w' ∧ Keep P w w'
theorem PLeft.same {σ : Sv} {svb : Nat} {P : Nat → Prop} {w w' : World} (h : PSv σ svb P w) (hb : Below w.heap.size w w') : PLeft σ svb P w w' := by
  have h1 := h.stays hb
  refine ⟨⟨h1.1, fun j hj => ?_, ?_⟩, Keep.new hb⟩
  · rcases hj with hj | hj
    · exact h1.2.1 j hj
    · exact hj.2
  · obtain ⟨_, _, ga, gc, xs, W, N, h3, h4⟩ := h1
    exact ⟨ga, gc, xs, W, N, h3, fun i j q => .inl (h4 i j q)⟩
set_option maxRecDepth 100000 in
set_option maxHeartbeats 1000000 in
theorem pdrop_any {σ : Sv} {svb : Nat} {P : Nat → Prop} {w : World} (hP : PSv σ svb P w) (id : Int) :
    Calls Tryz.prog 14 #[.pointer (some ⟨svb, 0, none⟩), .int .i64 id] w fun e w' => ∃ er σ', e = .returned (.int .i64 er) ∧ DropIs σ id er σ' ∧ PLeft σ' svb P w w' := by
  have hS := hide (fun (w' : World) (hb : Below w.heap.size w w') => PLeft.same hP hb)
  by_cases q1 : id < 0
  · have hA := hide (at_out (σ := σ) (.inl q1))
    have q2 : (id < 0) = True := by simp [q1]
    clear hP q1
    go_enter Tryz.func14, Tryz.ntmps14
    go_wp2
    go_ret
    exact ⟨5, σ, rfl, .inl ⟨hA.out, rfl, rfl⟩, hS.out _ (by exact bel)⟩
  · have q2 : (id < 0) = False := by simp [q1]
    by_cases q3 : 6 ≤ id
    · have hA := hide (at_out (σ := σ) (.inr q3))
      have q4 : (6 ≤ id) = True := by simp [q3]
      clear hP q1 q3
      go_enter Tryz.func14, Tryz.ntmps14
      go_wp2
      go_ret
      exact ⟨5, σ, rfl, .inl ⟨hA.out, rfl, rfl⟩, hS.out _ (by exact bel)⟩
    · have q4 : (6 ≤ id) = False := by simp [q3]
      obtain ⟨k, rfl⟩ := Int.eq_ofNat_of_zero_le (show 0 ≤ id by omega)
      have hk : k < 6 := by omega
      have i1 : (0 : Int) ≤ (k : Int) ∧ (k : Int) < 6 := by omega
      obtain ⟨hok, hlt, ga, gc, xs, W, N, hX, hin⟩ := hP
      have hA := hide (at_in (σ := σ) hk)
      have cx := hX.cx k hk
      have fx := hX.fz (3 + k)
      have z0 := cell_lt cx
      simp only at z0
      cases hq : σ.sl k with
      | none =>
        have hx := hX.noneAt hk hq
        rw [hx] at cx
        replace cx : w.cell? ⟨svb, 3 + k, none⟩ = some (.pointer none) := cx
        replace hq := hide hq
        clear hX hin hlt hok hx q1 q3
        go_enter Tryz.func14, Tryz.ntmps14
        go_wp2
        go_ret
        exact ⟨5, σ, rfl, .inl ⟨by rw [hA.out, hq.out], rfl, rfl⟩, hS.out _ (by exact bel)⟩
      | some q =>
        obtain ⟨x, hx, hPQ⟩ := hX.someAt hk hq
        rw [hx] at cx
        replace cx : w.cell? ⟨svb, 3 + k, none⟩ = some (.pointer (some ⟨x, 0, none⟩)) := cx
        have hfin := hide (show PLeft (σ.drop (k : Int)) svb P w (w.setCell ⟨svb, 3 + k, none⟩ (.pointer none)) from by
          have kp := (Keep.refl (fun j => j = svb) w).setCell (p := ⟨svb, 3 + k, none⟩) (.inl rfl) (.pointer none)
          have h1 := hX.slot hk kp (fun j e => .inl e) (fun o ho v hv => cu_set_off hv (fun e => ho e.symm)) (x := none) (World.cell?_setCell_same' _ _ _ (by rw [cx]; rfl)) (fun o => fu_set (hX.fz o)) none (ef := fun _ => σ.es) σ.es (W' := W k) (N' := N k) (fun j h => .inl h) (fun j h => .inr (.inl h)) (fun j h => hX.lay.ap k k j h) (.inl ⟨rfl, rfl⟩)
          rw [upz_self W k, upz_self N k, show upz (fun _ => σ.es) k σ.es = (fun _ => σ.es) from upz_self (fun _ => σ.es) k] at h1
          refine ⟨⟨⟨hok.g, hok.u, fun i q' hi hq' => ?_⟩, fun j hj => ?_, ga, gc, _, W, N, h1, fun i j q => .inl (hin i j q)⟩, kp.mono (fun j _ e => by rw [e]; exact hin 6 svb (.inl hX.own))⟩
          · by_cases e : i = k
            · subst e; rw [show (σ.drop (i : Int)).sl = upz σ.sl i none from rfl, upz_same] at hq'; cases hq'
            · rw [show (σ.drop (k : Int)).sl = upz σ.sl k none from rfl, upz_other _ _ e] at hq'; exact hok.q i q' hi hq'
          · rcases hj with hj | hj
            · simpa using hlt j hj
            · simpa using hj.2)
        replace hq := hide hq
        clear hX hin hlt hok hx q1 q3 hPQ
        go_enter Tryz.func14, Tryz.ntmps14
        go_wp2
        go_ret
        exact ⟨0, _, rfl, .inr ⟨by rw [hA.out, hq.out]; simp, rfl, rfl⟩, hfin.out⟩
/-- a request that the program has taken up -/
theorem PSv.put {σ : Sv} {svb : Nat} {P : Nat → Prop} {w w3 w' : World} (hP : PSv σ svb P w) (hb : Below w.heap.size w w3) {k f t : Nat} (hk : k < 6) (hf : f < σ.cs.length) (ht : t < σ.cs.length) {ws : List P2} (h1 : wsErr ws = 0) {b0 : Nat} (hw0 : w.heap.size ≤ b0) {aw : Option Addr} {m cw sb : Nat} {A C : Nat → Prop} (hm : ws.length = m) (own : Own encP 2 56 w3 b0 (.slice aw m cw) ws) (hO : AObj σ.cs.length t σ.es hZ ws (sBegin σ.es σ.cs.length f t ws) sb A C w3) (hA : ∀ j, A j ∨ C j → w.heap.size ≤ j) (hC : ∀ j, C j → j < w3.heap.size) (hAC : ∀ j, A j → ¬ C j) (hAw : ∀ j, A j ∨ C j → (Value.slice aw m cw).ownBlock ≠ some j)
    (hw' : w' = (w3.setCell ⟨svb, 3 + k, none⟩ (.pointer (some ⟨w3.heap.size, 0, none⟩))).alloc (.cells #[.pointer (some ⟨sb, 0, none⟩), .int .i64 (f : Int), .int .i64 (t : Int), .slice aw m cw, .int .i64 0, .int .i64 0, .slice none 0 0, .int .i64 0, .int .i64 0, .bool false] 74)) : PLeft (σ.put k f t ws) svb P w w' := by
  subst hm
  obtain ⟨hok, hlt, ga, gc, xs, W, N, hX, hin⟩ := hP
  have hX3 := hX.stays hb
  have hz := hb.size
  have hs0 : svb < w.heap.size := cell_lt hX.c0
  obtain ⟨w4, h4⟩ : ∃ w4, w4 = w3.alloc (.cells #[.pointer (some ⟨sb, 0, none⟩), .int .i64 (f : Int), .int .i64 (t : Int), .slice aw ws.length cw, .int .i64 0, .int .i64 0, .slice none 0 0, .int .i64 0, .int .i64 0, .bool false] 74) := ⟨_, rfl⟩
  rw [← World.setCell_alloc_past _ _ _ _ (by omega), ← h4] at hw'
  have hb4 : Below w3.heap.size w3 w4 := by rw [h4]; exact (Below.refl _ _).alloc (Nat.le_refl _) _
  have hz4 : w4.heap.size = w3.heap.size + 1 := by rw [h4]; simp
  have kp4 : Keep (fun j => j = svb) w3 w4 := Keep.new hb4
  have kp := kp4.setCell (p := ⟨svb, 3 + k, none⟩) (.inl rfl) (.pointer (some ⟨w3.heap.size, 0, none⟩))
  rw [← hw'] at kp
  have hzw : w'.heap.size = w4.heap.size := by rw [hw']; simp
  have kq : Keep (fun j => j = svb) w4 w' := by rw [hw']; exact (Keep.refl (fun j => j = svb) w4).setCell (p := ⟨svb, 3 + k, none⟩) (.inl rfl) _
  have hne : ¬ (w3.heap.size = svb) := by omega
  have hOb := own.block_lt
  obtain ⟨a2, c2, e2, hrow, _⟩ := own.row lenP
  cases e2
  have hQ : PQc σ.es σ.cs.length ⟨f, t, ws, sBegin σ.es σ.cs.length f t ws, none⟩ w3.heap.size sb cw aw rv0 A C (fun j => j = w3.heap.size ∨ A j) (fun j => C j ∨ (Value.slice aw ws.length cw).ownBlock = some j) w' := by
    refine ⟨kq.cu (by rw [h4]; simp [go_sem, rv0]) hne, kq.cu (by rw [h4]; simp [go_sem, rv0]) hne, kq.cu (by rw [h4]; simp [go_sem, rv0]) hne, kq.cu (by rw [h4]; simp [go_sem, rv0]) hne, kq.cu (by rw [h4]; simp [go_sem, rv0]) hne, kq.cu (by rw [h4]; simp [go_sem, rv0]) hne, kq.cu (by rw [h4]; simp [go_sem, rv0]) hne, kq.cu (by rw [h4]; simp [go_sem, rv0]) hne, kq.cu (by rw [h4]; simp [go_sem, rv0]) hne, kq.cu (by rw [h4]; simp [go_sem, rv0]) hne, fun o => ?_, hO.keep kp (fun j hj e => ?_), ((row_keep hrow kp (fun b o e e2 => ?_)).mono kp.size), rfl, .inl rfl, fun h => ?_, fun j h => .inr h, fun j h => .inl h, fun j o e => .inr (by rw [e]; rfl), fun j e => by cases e⟩
    · rw [hw']; exact fu_set (by rw [h4]; simp [go_sem])
    · have := hA j hj; omega
    · subst e2; have := hOb b (by rw [e]; rfl); omega
    · have := hO.lt h; omega
  have kpw : Keep (fun j => j = svb) w w' := (Keep.new hb).trans kp
  have hbw : Below w.heap.size w w4 := hb.trans (hb4.mono hz)
  have hslot := hX.slot hk kpw (fun j e => .inl e) (fun o ho v hv => by rw [hw']; exact cu_set_off (cu_below hbw hv (cell_lt hv)) (fun e => ho e.symm)) (x := some w3.heap.size) (by rw [hw']; exact World.cell?_setCell_same' _ _ _ (by rw [cu_below hbw (hX.cx k hk) hs0]; rfl)) (fun o => by rw [hw']; exact fu_set (fu_below hbw (hX.fz o) hs0)) (some ⟨f, t, ws, sBegin σ.es σ.cs.length f t ws, none⟩) (ef := fun _ => σ.es) σ.es (W' := fun j => j = w3.heap.size ∨ A j) (N' := fun j => C j ∨ (Value.slice aw ws.length cw).ownBlock = some j) (fun j h => .inr ?_) (fun j h => .inr (.inr ?_)) (fun j h h2 => ?_) (.inr ⟨_, _, rfl, rfl, sb, cw, aw, rv0, A, C, hQ⟩)
  · rw [show upz (fun _ => σ.es) k σ.es = (fun _ => σ.es) from upz_self (fun _ => σ.es) k] at hslot
    refine ⟨⟨⟨hok.g, hok.u, fun i q' hi hq' => ?_⟩, fun j hj => ?_, ga, gc, _, _, _, hslot, fun i j q => ?_⟩, kpw.mono (fun j _ e => by rw [e]; exact hin 6 svb (.inl hX.own))⟩
    · by_cases e : i = k
      · subst e
        rw [show (σ.put i f t ws).sl = upz σ.sl i (some (newQ σ.es σ.cs.length f t ws)) from rfl, upz_same] at hq'
        cases hq'
        exact ⟨hf, ht, h1, fun r h => by cases h⟩
      · rw [show (σ.put k f t ws).sl = upz σ.sl k (some (newQ σ.es σ.cs.length f t ws)) from rfl, upz_other _ _ e] at hq'
        exact hok.q i q' hi hq'
    · rcases hj with hj | hj
      · have := hlt j hj; omega
      · exact hj.2
    · by_cases e : i = k
      · subst e
        rw [upz_same, upz_same] at q
        rcases q with (q | q) | (q | q)
        · exact .inr ⟨by omega, by omega⟩
        · exact .inr ⟨hA j (.inl q), by have := hO.lt q; omega⟩
        · exact .inr ⟨hA j (.inr q), by have := hC j q; omega⟩
        · exact .inr ⟨by have := hOb j q; omega, by have := hOb j q; omega⟩
      · rw [upz_other _ _ e, upz_other _ _ e] at q
        exact .inl (hin i j q)
  · rcases h with h | h
    · exact ⟨by omega, by omega⟩
    · exact ⟨hA j (.inl h), by have := hO.lt h; omega⟩
  · rcases h with h | h
    · exact ⟨hA j (.inr h), by have := hC j h; omega⟩
    · exact ⟨by have := hOb j h; omega, by have := hOb j h; omega⟩
  · rcases h with h | h <;> rcases h2 with h2 | h2
    · have := hC j h2; omega
    · have := hOb j h2; omega
    · exact hAC j h h2
    · exact hAw j (.inl h) h2
set_option maxRecDepth 100000 in
set_option maxHeartbeats 4000000 in
theorem pask_bad {σ : Sv} {svb : Nat} {P : Nat → Prop} {w : World} (hP : PSv σ svb P w) (f t : Int) (aw : Option Addr) (m cw : Nat) (ws : List P2) (hm : ws.length = m) (hl : m ≤ 1048576) (B : Nat) (hB : B ≤ w.heap.size) (hW : Row encP 2 w B aw ws) (h0 : askErr σ f t ws ≠ 0) :
    Calls Tryz.prog 12 #[.pointer (some ⟨svb, 0, none⟩), .int .i64 f, .int .i64 t, .slice aw m cw] w fun e w' => e = .returned (.tuple #[.int .i64 0, .int .i64 (askErr σ f t ws)]) ∧ Below w.heap.size w w' := by
  have hn := hP.1.n
  have hC := hide (fun (w' : World) (a : Option Addr) (c : Nat) (hb : Below w.heap.size w w') (hr : Row encP 2 w' w'.heap.size a ws) => psearch_bad (svb := svb) (by obtain ⟨_, _, ga, gc, xs, W, N, hX, _⟩ := hP; exact (hX.stays hb).gd) hP.1.g f t a m c rv0 false ws hm hr hn.2.1 (askErr σ f t ws) rfl h0)
  obtain ⟨er, her⟩ : ∃ er, er = askErr σ f t ws := ⟨_, rfl⟩
  rw [← her] at h0 hC ⊢
  have q0 : (er != 0) = true := by simp [h0]
  unfold askV rv0 at hC
  replace her := hide her
  replace hm := hide hm
  replace hW := hide hW
  clear h0 hP hn
  go_enter Tryz.func12, Tryz.ntmps12
  go_wp2_with (at_builtin; (refine wpList_all (enc := encP) (v := .slice none 0 0) (xs := []) (base := w.heap.size) rfl (.const (.slice none 0 0)) (.tmp 17) 26 rfl _ 16 Tryz.underlying26 info_ratioN rfl ?d1 lenP oneP 0 rfl rfl (Own.nil _ _) B aw m cw ws ?d3 rfl hW.out ?d4 ?d5 ?d6 ?_); (case d1 => omega); (case d3 => exact hm.out); (case d4 => omega); (case d5 => unfold maxLen; omega); (case d6 => exact Nat.le_refl _); intro a4 c4 w1 own4 hb4 hg4; simp only [List.nil_append, Nat.zero_add] at own4 ⊢; replace own4 := hide own4; replace hb4 := hide hb4; clear hg4)
  have hb1 := hide ((hb4.out.alloc hb4.out.size (.cells #[.int .i64 f, .int .i64 t, .slice a4 m c4, .int .i64 0, .int .i64 0, .slice none 0 0, .int .i64 0, .int .i64 0, .bool false] 69)))
  have hrow := hide (show Row encP 2 (w1.alloc (.cells #[.int .i64 f, .int .i64 t, .slice a4 m c4, .int .i64 0, .int .i64 0, .slice none 0 0, .int .i64 0, .int .i64 0, .bool false] 69)) (w1.alloc (.cells #[.int .i64 f, .int .i64 t, .slice a4 m c4, .int .i64 0, .int .i64 0, .slice none 0 0, .int .i64 0, .int .i64 0, .bool false] 69)).heap.size a4 ws from by
    obtain ⟨a2, c2, e2, hr, _⟩ := own4.out.row lenP
    rw [hm.out] at e2
    cases e2
    exact (hr.below ((Below.refl _ _).alloc (Nat.le_refl _) _) (Nat.le_refl _)).mono (by simp))
  clear own4
  refine (hC.out _ a4 c4 hb1.out hrow.out).mono ?_
  rintro e w2 ⟨rfl, hb5⟩
  have hb6 := hide (hb1.out.trans (hb5.mono hb1.out.size))
  clear hb5 hrow
  go_wp2
  refine bodyPost_ret (v := .tuple #[.int .i64 0, .int .i64 er]) (by simp [results, Tryz.results12, go_sem]) rfl ⟨rfl, hb6.out⟩
set_option maxRecDepth 100000 in
set_option maxHeartbeats 4000000 in
theorem pask_ok {σ : Sv} {svb : Nat} {P : Nat → Prop} {w : World} (hP : PSv σ svb P w) (f t : Nat) (aw : Option Addr) (m cw : Nat) (ws : List P2) (hm : ws.length = m) (hl : m ≤ 1048576) (B : Nat) (hB : B ≤ w.heap.size) (hW : Row encP 2 w B aw ws) (h0 : askErr σ (f : Int) (t : Int) ws = 0) (hf : f < σ.cs.length) (ht : t < σ.cs.length) (hlk : lookErr (σ.cs.length : Int) σ.es [(f : Int), (t : Int)] = 0) (hws : wsErr ws = 0) :
    Calls Tryz.prog 12 #[.pointer (some ⟨svb, 0, none⟩), .int .i64 (f : Int), .int .i64 (t : Int), .slice aw m cw] w fun e w' => ∃ n er σ', e = .returned (.tuple #[.int .i64 n, .int .i64 er]) ∧ AskIs σ (f : Int) (t : Int) ws n er σ' ∧ PLeft σ' svb P w w' := by
  have hn := hP.1.n
  have hC := hide (fun (w' : World) (a : Option Addr) (c : Nat) (hb : Below w.heap.size w w') (hr : Row encP 2 w' w'.heap.size a ws) => psearch_ok (svb := svb) (by obtain ⟨_, _, ga, gc, xs, W, N, hX, _⟩ := hP; exact (hX.stays hb).gd) hP.1.g f t a m c rv0 false ws hm hr hlk hws hn.2.1)
  have hS := hide (fun (w' : World) (hb : Below w.heap.size w w') => PLeft.same hP hb)
  have hPut := hide (fun (w3 w' : World) (k b0 a4 c4 sb : Nat) (aw : Option Addr) (A C : Nat → Prop) hb hk hw0 own hO hA hC hAC hAw hw' => PSv.put (w3 := w3) (w' := w') (k := k) (b0 := b0) (aw := aw) (m := m) (cw := c4) (sb := sb) (A := A) (C := C) hP hb hk hf ht hws hw0 hm own hO hA hC hAC hAw hw')
  obtain ⟨hok, hlt, ga, gc, xs, W, N, hX, hin⟩ := hP
  have hCx := hide (fun (w' : World) (hb : Below w.heap.size w w') (i : Nat) (hi : i < 6) => show w'.cell? ⟨svb, 3 + i, none⟩ = some (.pointer (adr (xs i))) from (hX.stays hb).cx i hi)
  have hFz := hide (fun (w' : World) (hb : Below w.heap.size w w') (o : Nat) => (hX.stays hb).fz o)
  have hNo := hide (fun (k : Nat) (hk : k < 6) => hX.noneAt hk)
  have hYes := hide (fun (k : Nat) (hk : k < 6) (q : Sq) (e : σ.sl k = some q) => show ∃ x, xs k = some x from by obtain ⟨x, h, _⟩ := hX.someAt hk e; exact ⟨x, h⟩)
  have zs : svb < w.heap.size := cell_lt hX.c0
  unfold askV rv0 at hC
  replace hm := hide hm
  replace hW := hide hW
  replace h0 := hide h0
  clear hX hin hlt hok hn hlk hws hf ht
  go_enter Tryz.func12, Tryz.ntmps12
  go_wp2_with (at_builtin; (refine wpList_all (enc := encP) (v := .slice none 0 0) (xs := []) (base := w.heap.size) rfl (.const (.slice none 0 0)) (.tmp 17) 26 rfl _ 16 Tryz.underlying26 info_ratioN rfl ?d1 lenP oneP 0 rfl rfl (Own.nil _ _) B aw m cw ws ?d3 rfl hW.out ?d4 ?d5 ?d6 ?_); (case d1 => omega); (case d3 => exact hm.out); (case d4 => omega); (case d5 => unfold maxLen; omega); (case d6 => exact Nat.le_refl _); intro a4 c4 w1 own4 hb4 hg4; simp only [List.nil_append, Nat.zero_add] at own4 ⊢; replace own4 := hide own4; replace hb4 := hide hb4; clear hg4)
  obtain ⟨bA, hbA⟩ : ∃ bA, bA = w1.heap.size := ⟨_, rfl⟩
  obtain ⟨w2, hw2⟩ : ∃ w2, w2 = (w1.alloc (.cells #[.int .i64 (f : Int), .int .i64 (t : Int), .slice a4 m c4, .int .i64 0, .int .i64 0, .slice none 0 0, .int .i64 0, .int .i64 0, .bool false] 69)) := ⟨_, rfl⟩
  have hb12 : Below w1.heap.size w1 w2 := by rw [hw2]; exact (Below.refl _ _).alloc (Nat.le_refl _) _
  have hb1 := hide (hb4.out.trans (hb12.mono hb4.out.size))
  have y0 : w2.cell? ⟨bA, 0, none⟩ = some (.int .i64 (f : Int)) := by rw [hw2, hbA]; simp [go_sem]
  have y1 : w2.cell? ⟨bA, 1, none⟩ = some (.int .i64 (t : Int)) := by rw [hw2, hbA]; simp [go_sem]
  have y2 : w2.cell? ⟨bA, 2, none⟩ = some (.slice a4 m c4) := by rw [hw2, hbA]; simp [go_sem]
  have y3 : w2.cell? ⟨bA, 3, none⟩ = some (.int .i64 0) := by rw [hw2, hbA]; simp [go_sem]
  have y4 : w2.cell? ⟨bA, 4, none⟩ = some (.int .i64 0) := by rw [hw2, hbA]; simp [go_sem]
  have y5 : w2.cell? ⟨bA, 5, none⟩ = some (.slice none 0 0) := by rw [hw2, hbA]; simp [go_sem]
  have y6 : w2.cell? ⟨bA, 6, none⟩ = some (.int .i64 0) := by rw [hw2, hbA]; simp [go_sem]
  have y7 : w2.cell? ⟨bA, 7, none⟩ = some (.int .i64 0) := by rw [hw2, hbA]; simp [go_sem]
  have y8 : w2.cell? ⟨bA, 8, none⟩ = some (.bool false) := by rw [hw2, hbA]; simp [go_sem]
  have own2 := hide (own4.out.stays hb12)
  have zA : bA < w2.heap.size := cell_lt y0
  simp only [← hw2]
  simp only [← hbA]
  replace hbA := hide hbA
  replace hw2 := hide hw2
  clear hb12 own4
  refine (hC.out _ a4 c4 hb1.out (by
    obtain ⟨a2, c2, e2, hr, _⟩ := own2.out.row lenP
    rw [hm.out] at e2
    cases e2
    exact hr)).mono ?_
  rintro e w3 ⟨sb, A, C, rfl, hO, hAC, hb5, hC2, hdis⟩
  have y0 := cu_below hb5 y0 zA
  have y1 := cu_below hb5 y1 zA
  have y2 := cu_below hb5 y2 zA
  have y3 := cu_below hb5 y3 zA
  have y4 := cu_below hb5 y4 zA
  have y5 := cu_below hb5 y5 zA
  have y6 := cu_below hb5 y6 zA
  have y7 := cu_below hb5 y7 zA
  have y8 := cu_below hb5 y8 zA
  have hb6 := hide (hb1.out.trans (hb5.mono hb1.out.size))
  have own3 := hide (own2.out.stays hb5)
  have hPut2 := hide (fun (wx w' : World) (k : Nat) (hk : k < 6) (hb : Below w3.heap.size w3 wx) hw' => hPut.out wx w' k w.heap.size 0 c4 sb a4 A C (hb6.out.trans (hb.mono hb6.out.size)) hk (Nat.le_refl _) (own3.out.stays hb) (hO.stays hb) (fun j hj => Nat.le_trans hb1.out.size (hAC j hj)) (fun j hj => Nat.lt_of_lt_of_le (hC2 j hj) hb.size) hdis (fun j hj e => by have := (own2.out.block_lt j e).2; have := hAC j hj; omega) hw')
  have zA3 : bA < w3.heap.size := cell_lt y0
  have zs3 : svb < w3.heap.size := by have := hb6.out.size; omega
  clear hb5 own2 hb1 hO hAC hC2 hdis hPut hC
  have x0 := hCx.out w3 hb6.out 0 (by omega)
  have x1 := hCx.out w3 hb6.out 1 (by omega)
  have x2 := hCx.out w3 hb6.out 2 (by omega)
  have x3 := hCx.out w3 hb6.out 3 (by omega)
  have x4 := hCx.out w3 hb6.out 4 (by omega)
  have x5 := hCx.out w3 hb6.out 5 (by omega)
  simp only [Nat.reduceAdd] at x0 x1 x2 x3 x4 x5
  have hix := fun (k : Nat) (hk : k < 6) (w : World) => ix_at xs k hk w
  obtain ⟨p0, hp0⟩ : ∃ p, p = adr (xs 0) := ⟨_, rfl⟩
  obtain ⟨p1, hp1⟩ : ∃ p, p = adr (xs 1) := ⟨_, rfl⟩
  obtain ⟨p2, hp2⟩ : ∃ p, p = adr (xs 2) := ⟨_, rfl⟩
  obtain ⟨p3, hp3⟩ : ∃ p, p = adr (xs 3) := ⟨_, rfl⟩
  obtain ⟨p4, hp4⟩ : ∃ p, p = adr (xs 4) := ⟨_, rfl⟩
  obtain ⟨p5, hp5⟩ : ∃ p, p = adr (xs 5) := ⟨_, rfl⟩
  rw [← hp0] at x0 hix
  rw [← hp1] at x1 hix
  rw [← hp2] at x2 hix
  rw [← hp3] at x3 hix
  rw [← hp4] at x4 hix
  rw [← hp5] at x5 hix
  replace hix := hide hix
  clear hp0 hp1 hp2 hp3 hp4 hp5
  go_wp2_with fail
  go_loopw [33] (fun i wr => ∃ k : Nat, k ≤ 6 ∧ i = .int .i64 (k : Int) ∧ Hid (∀ j, j < k → σ.sl j ≠ none) ∧ Below w3.heap.size w3 wr) (fun i _ => 6 - (intOf i).toNat)
  case atStart => exact ⟨0, by omega, rfl, hide (fun j h => by omega), Below.refl _ _⟩
  case round =>
    obtain ⟨k, hk6, rfl, hno, hbr⟩ := hrel
    have hb7 := hide (hb6.out.trans (hbr.mono hb6.out.size))
    by_cases hk : k < 6
    · have i1 : (0 : Int) ≤ (k : Int) ∧ (k : Int) < 6 := by omega
      cases hq : σ.sl k with
      | none =>
        have hx := hNo.out k hk hq
        have hi : ∀ w, (Instr.index 39 (.agg #[.pointer p0, .pointer p1, .pointer p2, .pointer p3, .pointer p4, .pointer p5]) (.int .i64 (k : Int))).run Tryz.prog w = .ok (.pointer none) w := fun w => by rw [hix.out k hk w, hx]; rfl
        have s0 := hCx.out wr hb7.out k hk
        rw [hx] at s0
        replace s0 : wr.cell? ⟨svb, 3 + k, none⟩ = some (.pointer none) := s0
        have sf := hFz.out wr hb7.out (3 + k)
        have z0 := cu_below hbr y0 zA3
        have z1 := cu_below hbr y1 zA3
        have z2 := cu_below hbr y2 zA3
        have z3 := cu_below hbr y3 zA3
        have z4 := cu_below hbr y4 zA3
        have z5 := cu_below hbr y5 zA3
        have z6 := cu_below hbr y6 zA3
        have z7 := cu_below hbr y7 zA3
        have z8 := cu_below hbr y8 zA3
        have hA := hide (show AskIs σ (f : Int) (t : Int) ws (k : Int) 0 (σ.put k f t ws) from .inr (.inr ⟨h0.out, k, ⟨hk, hq, hno.out⟩, rfl, rfl, rfl⟩))
        have zsr : svb < wr.heap.size := cell_lt s0
        have zAr : bA < wr.heap.size := cell_lt z0
        replace hq := hide hq
        clear hx x0 x1 x2 x3 x4 x5 y0 y1 y2 y3 y4 y5 y6 y7 y8
        go_wp2_with fail
        go_region_law fail
        all_goals
          go_wp2
          refine bodyPost_ret (v := .tuple #[.int .i64 (k : Int), .int .i64 0]) (by simp [results, Tryz.results12, go_sem]) rfl ⟨(k : Int), 0, _, rfl, hA.out, by first | exact hPut2.out wr _ k hk hbr rfl | exact hPut2.out wr.drew _ k hk hbr.drew rfl | exact (hPut2.out wr _ k hk hbr rfl).drew⟩
      | some q =>
        obtain ⟨x, hx⟩ := hYes.out k hk q hq
        have hi : ∀ w, (Instr.index 39 (.agg #[.pointer p0, .pointer p1, .pointer p2, .pointer p3, .pointer p4, .pointer p5]) (.int .i64 (k : Int))).run Tryz.prog w = .ok (.pointer (some ⟨x, 0, none⟩)) w := fun w => by rw [hix.out k hk w, hx]; rfl
        have hno2 := hide (show ∀ j, j < k + 1 → σ.sl j ≠ none from fun j hj => by
          by_cases e : j = k
          · rw [e, hq]; simp
          · exact hno.out j (by omega))
        replace hq := hide hq
        clear hx x0 x1 x2 x3 x4 x5 y0 y1 y2 y3 y4 y5 y6 y7 y8
        go_wp2
        go_roundw
        case rel => exact ⟨k + 1, by omega, by go_num, hno2, bel⟩
        case measure => simp [intOf]; omega
    · obtain rfl : k = 6 := by omega
      go_wp2
      refine bodyPost_ret (v := .tuple #[.int .i64 0, .int .i64 10]) (by simp [results, Tryz.results12, go_sem]) rfl ⟨0, 10, σ, rfl, .inr (.inl ⟨h0.out, hno.out, rfl, rfl, rfl⟩), hS.out _ hb7.out⟩
theorem pask_any {σ : Sv} {svb : Nat} {P : Nat → Prop} {w : World} (hP : PSv σ svb P w) (f t : Int) (aw : Option Addr) (m cw : Nat) (ws : List P2) (hm : ws.length = m) (hl : m ≤ 1048576) (B : Nat) (hB : B ≤ w.heap.size) (hW : Row encP 2 w B aw ws) :
    Calls Tryz.prog 12 #[.pointer (some ⟨svb, 0, none⟩), .int .i64 f, .int .i64 t, .slice aw m cw] w fun e w' => ∃ n er σ', e = .returned (.tuple #[.int .i64 n, .int .i64 er]) ∧ AskIs σ f t ws n er σ' ∧ PLeft σ' svb P w w' := by
  by_cases h0 : askErr σ f t ws = 0
  · obtain ⟨f', t', rfl, rfl, h1, h2, h3, h4⟩ := ask_ok h0
    exact pask_ok hP f' t' aw m cw ws hm hl B hB hW h0 h1 h2 h3 h4
  · refine (pask_bad hP f t aw m cw ws hm hl B hB hW h0).mono ?_
    rintro e w' ⟨rfl, hb⟩
    exact ⟨0, _, σ, rfl, .inl ⟨h0, rfl, rfl, rfl⟩, PLeft.same hP hb⟩
end Go.Proofs.YtccailcjclbhlaaGreat
