/-
  A part of the proof of ServePlays: AMC AMD AME
-/
import Derived.Test.YtccailcjclbhlaaTopServiceA10
import Derived.Test.YtccailcjclbhlaaTopServiceA5
import Derived.Test.YtccailcjclbhlaaTopServiceA2
import Derived.Test.YtccailcjclbhlaaTopServiceA1
import Derived.Lib.SliceRun
import Derived.Test.YtccailcjclbhlaaTopServiceA3
import Derived.WideKeyEntry
import Derived.Test.YtccailcjclbhlaaTopServiceA6
/-! Several texts in one: -/
/-! The document's search by rounds: its object, its lists, its maps, its rounds. No condition. -/
namespace Go.Proofs.Ytccailcjclbhlaa
open Go.RowKit
set_option linter.unusedSimpArgs false
set_option linter.unusedVariables false
def sv3 {α : Type} (a b c : α) : Nat → α := fun i => if i = 0 then a else if i = 1 then b else c
theorem lt3 {P : Nat → Prop} (h0 : P 0) (h1 : P 1) (h2 : P 2) : ∀ i, i < 3 → P i := fun i hi => by
  rcases (show i = 0 ∨ i = 1 ∨ i = 2 by omega) with rfl | rfl | rfl
  · exact h0
  · exact h1
  · exact h2
/-- the blocks that it writes in place -/
abbrev RXb (rb mb pb : Nat) (j : Nat) : Prop := AXb rb mb pb mb pb j
/-- its own blocks -/
def ROwn (rb mb pb : Nat) (sv : Nat → Value) (rv : Value) (ros : List RV) (j : Nat) : Prop := RXb rb mb pb j ∨ (∃ i, i < 3 ∧ (sv i).ownBlock = some j) ∨ rv.ownBlock = some j ∨ Pathb ros j
/-- rb: the object; mb, pb: its maps; sv, sl: those that wait, were looked from, are late; w1: the world right behind their making -/
structure RXf [AFr] (n rb mb pb nm : Nat) (ev hv wv : Value) (fr tg : Int) (sv : Nat → Value) (sl : Nat → List Nat) (rv : Value) (ros : List RV) (s : AS) (w1 wr : World) : Prop where
  c0 : wr.cell? ⟨rb, 0, none⟩ = some (.int .i64 (n : Int))
  c1 : wr.cell? ⟨rb, 1, none⟩ = some ev
  c2 : wr.cell? ⟨rb, 2, none⟩ = some (.int .i64 fr)
  c3 : wr.cell? ⟨rb, 3, none⟩ = some (.int .i64 tg)
  c4 : wr.cell? ⟨rb, 4, none⟩ = some hv
  c5 : wr.cell? ⟨rb, 5, none⟩ = some wv
  c6 : wr.cell? ⟨rb, 6, none⟩ = some (.map (some mb))
  c7 : wr.cell? ⟨rb, 7, none⟩ = some (.map (some pb))
  cs : ∀ i, i < 3 → wr.cell? ⟨rb, 8 + i, none⟩ = some (sv i)
  c11 : wr.cell? ⟨rb, 11, none⟩ = some (.int .i64 (s.done : Int))
  c12 : wr.cell? ⟨rb, 12, none⟩ = some rv
  fz : ∀ o, wr.frozen? ⟨rb, o, none⟩ = false
  cm : IMap wr mb nm (costM n s.cost)
  pm : IMap wr pb nm (predM n s.pred)
  os : ∀ i, i < 3 → Own encI 1 3 wr w1.heap.size (sv i) (LP (sl i))
  rnds : Own encR 5 53 wr w1.heap.size rv ros
  told : Told wr w1.heap.size ros s.told
  keep : Keep (RXb rb mb pb) w1 wr
  ap : ∀ i j k, i < 3 → j < 3 → i ≠ j → (sv i).ownBlock = some k → (sv j).ownBlock ≠ some k
  apR : ∀ i k, i < 3 → (sv i).ownBlock = some k → rv.ownBlock ≠ some k
  apP : ∀ k, Pathb ros k → rv.ownBlock ≠ some k ∧ ∀ i, i < 3 → (sv i).ownBlock ≠ some k
  lt : rb < w1.heap.size ∧ mb < w1.heap.size ∧ pb < w1.heap.size
  ne : rb ≠ mb ∧ rb ≠ pb ∧ mb ≠ pb
  nf : AF (ROwn rb mb pb sv rv ros) wr
section
variable [AFr]
variable {n rb mb pb nm : Nat} {ev hv wv : Value} {fr tg : Int} {sv : Nat → Value} {sl : Nat → List Nat} {rv : Value} {ros : List RV} {s : AS} {w1 wr w' : World}
end
end Go.Proofs.Ytccailcjclbhlaa

/-! The document's search by rounds: what its key, its Over, its first return. Conditions: the object reads as RXf says, the constants as AC says. -/
namespace Go.Proofs.Ytccailcjclbhlaa
open Go.RowKit
set_option linter.unusedSimpArgs false
set_option linter.unusedVariables false
end Go.Proofs.Ytccailcjclbhlaa

/-! The document's search by rounds: its lists against the plain machine; what settle does. Conditions: the object reads as RXf says, the constants as AC says. -/
namespace Go.Proofs.Ytccailcjclbhlaa
open Go.RowKit
set_option linter.unusedSimpArgs false
set_option linter.unusedVariables false
/-- its lists, in a state of the plain machine -/
structure AL (n : Nat) (es : List Ed) (s : AS) (wl ol ll : List Nat) : Prop where
  nd : wl.Nodup
  iw : ∀ v, v ∈ wl ↔ v < n ∧ s.wt v = true
  ik : ∀ v, v ∈ ol ↔ s.lk v = true
  od : ol.Nodup
  ia : LaL s ll
  ln : ll.length ≤ eB es s.lk
end Go.Proofs.Ytccailcjclbhlaa
/-! Several texts in one: -/
/-! The reference's Rounds: the place taken is deleted from those that wait (slices.DeleteFunc with Step$1). Conditions: that the slice is the call's own. -/
namespace Go.Proofs.Ytccailcjclbhlaa
open Go.RowKit
set_option linter.unusedSimpArgs false
set_option linter.unusedVariables false
end Go.Proofs.Ytccailcjclbhlaa

/-! A map from numbers to numbers that the call made: a store in two steps, as an assignment to several places does it (the entry first, then the value). Conditions: the key and the value fit 64 bits. -/
namespace Go.Proofs.Ytccailcjclbhlaa
open Go.RowKit Go.Maps Go.ChangeMaps
set_option linter.unusedSimpArgs false
set_option linter.unusedVariables false
end Go.Proofs.Ytccailcjclbhlaa

/-! The document's search by rounds: what Step does. Conditions: the object reads as RXf says, the constants as AC says, it is not over. -/
namespace Go.Proofs.Ytccailcjclbhlaa
open Go.RowKit
set_option linter.unusedSimpArgs false
set_option linter.unusedVariables false
/-- its lists, while the edges from a place are gone through -/
structure ALq (n : Nat) (s : AS) (wl ol ll : List Nat) : Prop where
  nd : wl.Nodup
  iw : ∀ v, v ∈ wl ↔ v < n ∧ s.wt v = true
  ik : ∀ v, v ∈ ol ↔ s.lk v = true
  od : ol.Nodup
  ia : LaL s ll
end Go.Proofs.Ytccailcjclbhlaa

/-! Several texts in one: -/
/-! The reference's SameWay and SameFound over two that hold the same: true. Conditions: the lists read. -/
namespace Go.Proofs.Ytccailcjclbhlaa
open Go.RowKit
set_option linter.unusedSimpArgs false
set_option linter.unusedVariables false
set_option maxHeartbeats 1000000 in
theorem sw_any (a b : Option Addr) (c1 c2 m : Nat) (xs : List Int) (cost : Int) (w : World) (h1 : xs.length = m) (hx : Row encI 1 w w.heap.size a xs) (hy : Row encI 1 w w.heap.size b xs) (hl : m ≤ 9223372036854775807) :
    Calls Try.prog 24 #[.agg #[.slice a m c1, .int .i64 cost], .agg #[.slice b m c2, .int .i64 cost]] w fun e w' => e = .returned (.bool true) ∧ Below w.heap.size w w' := by
  have hE := hide (fun (w' : World) (hb : Below w.heap.size w w') => eqI a b c1 c2 m m xs xs w' w.heap.size w.heap.size h1 h1 (hx.below hb (Nat.le_refl _)) (hy.below hb (Nat.le_refl _)) hl hl true (by simp))
  clear hx hy
  replace h1 := hide h1
  go_enter Try.func24, Try.ntmps24
  go_wp2_with fail
  refine (hE.out _ (by exact bel)).mono ?_
  rintro e w1 ⟨rfl, m2, rfl⟩
  go_wp2
  go_ret
  exact ⟨rfl, bel⟩
end Go.Proofs.Ytccailcjclbhlaa

/-! What a search answers, as plain data. Conditions: none. -/
namespace Go.Proofs.Ytccailcjclbhlaa
open Go.RowKit
set_option linter.unusedSimpArgs false
set_option linter.unusedVariables false
end Go.Proofs.Ytccailcjclbhlaa

/-! The document's SameRound over two rounds that hold the same, and EqualFunc over two lists of them: true. Conditions: the ways read. -/
namespace Go.Proofs.Ytccailcjclbhlaa
open Go.RowKit
set_option linter.unusedSimpArgs false
set_option linter.unusedVariables false
theorem sameround_any (wa wb cost dn : Int) (a b : Option Addr) (m c1 c2 : Nat) (p : List Int) (w : World) (hm : p.length = m) (h1 : Row encI 1 w w.heap.size a p) (h2 : Row encI 1 w w.heap.size b p) (hm2 : m ≤ 1000) :
    Calls Try.prog 14 #[.agg #[.int .i64 wa, .int .i64 wb, .slice a m c1, .int .i64 cost, .int .i64 dn], .agg #[.int .i64 wa, .int .i64 wb, .slice b m c2, .int .i64 cost, .int .i64 dn]] w fun e w' => e = .returned (.bool true) ∧ Below w.heap.size w w' := by
  have hW := hide (fun (w' : World) (hb : Below w.heap.size w w') => sw_any a b c1 c2 m p cost w' hm ((h1.below hb (Nat.le_refl _)).mono hb.size) ((h2.below hb (Nat.le_refl _)).mono hb.size) (by omega))
  clear h1 h2
  replace hm := hide hm
  go_enter Try.func14, Try.ntmps14
  go_wp2_with fail
  refine (hW.out _ (by exact bel)).mono ?_
  rintro e w1 ⟨rfl, hb1⟩
  have hb2 := hide (((bel : Below w.heap.size w _)).trans (hb1.mono (by simp; omega)))
  clear hb1
  go_wp2
  go_ret
  exact ⟨rfl, hb2.out⟩
end Go.Proofs.Ytccailcjclbhlaa

/-! Searches by rounds as objects that own what they made: what a call of one does, and that it leaves all else alone. Conditions: stated with each. -/
namespace Go.Proofs.Ytccailcjclbhlaa
open Go.RowKit
set_option linter.unusedSimpArgs false
set_option linter.unusedVariables false
/-- all that is there but A -/
@[reducible] def AFr.but (A : Nat → Prop) (w : World) : AFr := ⟨fun j => j < w.heap.size ∧ ¬ A j, w.heap.size, fun j => w.heap[j]?⟩
theorem AF.but {A A' : Nat → Prop} (w : World) (h : ∀ j, A' j → A j) : @AF (AFr.but A w) A' w := ⟨Nat.le_refl _, fun j hj => ⟨hj.1, rfl, fun ha => hj.2 (h j ha)⟩⟩
/-- a world's first n blocks -/
def cutW (w : World) (n : Nat) : World := { w with heap := w.heap.extract 0 n }
theorem cutW_size {w : World} {n : Nat} (h : n ≤ w.heap.size) : (cutW w n).heap.size = n := by simp [cutW]; omega
theorem cutW_block {w : World} {n j : Nat} (h : n ≤ w.heap.size) (hj : j < n) : (cutW w n).heap[j]? = w.heap[j]? := by
  simp [cutW, Array.getElem?_extract]; omega
theorem cutW_keep {w : World} {n : Nat} (S : Nat → Prop) (h : n ≤ w.heap.size) : Keep S (cutW w n) w :=
  ⟨rfl, rfl, rfl, by rw [cutW_size h]; exact h, fun k hk _ => by rw [cutW_size h] at hk; exact (cutW_block h hk).symm⟩
/-- what a set becomes by what is made -/
def grown (A : Nat → Prop) (w w' : World) (j : Nat) : Prop := A j ∨ (w.heap.size ≤ j ∧ j < w'.heap.size)
theorem AC.re {n sb gc gp gd gh hc m wc el ec : Nat} {ha aw ae : Option Addr} {h : Nat → Int} {ws : List P2} {es : List Ed} {wS wS' : World} {T : Nat → Prop} (hC : AC n sb gc gp gd gh hc m wc el ec ha aw ae h ws es wS) (kp : Keep T wS wS') (hs : wS'.heap.size = wS.heap.size) (hae : ∀ b o, ae = some ⟨b, o, none⟩ → es ≠ [] → ¬ T b ∧ ¬ AXb sb gc gp gd gh b) (hha : ∀ b o, ha = some ⟨b, o, none⟩ → ¬ T b) (haw : ∀ b o, aw = some ⟨b, o, none⟩ → ¬ T b) : AC n sb gc gp gd gh hc m wc el ec ha aw ae h ws es wS' := by
  refine ⟨by rw [hs]; exact row_keep hC.hr kp hha, hC.hx, by rw [hs]; exact row_keep hC.wr kp haw, hC.wx, fun wz hk => ?_, hC.hn, hC.hh, hC.hw, hC.wl, hC.es⟩
  rw [hs]
  by_cases he : es = []
  · subst he; exact Row.nil _ _ _ _ _
  · exact row_keep (row_keep (hC.er wS (Keep.refl _ _)) kp (fun b o e => (hae b o e he).1)) hk (fun b o e => (hae b o e he).2)
theorem AX.rebase {I1 I2 : AFr} {n sb gc gp gd gh : Nat} {ev ov hv wv : Value} {tg : Int} {v : Value} {k : Nat} {f : Nat → Ed} {lv : Value} {ls : List Nat} {rv : Value} {ros : List RV} {s : AS} {wS wr wS' w' : World} (h : @AX I1 n sb gc gp gd gh ev ov hv wv tg v k f lv ls rv ros s wS wr) {T : Nat → Prop} (kp : Keep T wr w') (hT : ∀ j, AOwn sb gc gp gd gh v lv rv ros j → ¬ T j) (hs : wS'.heap.size = wS.heap.size) (hk : Keep (AXb sb gc gp gd gh) wS' w') (hf : @AF I2 (AOwn sb gc gp gd gh v lv rv ros) w') : @AX I2 n sb gc gp gd gh ev ov hv wv tg v k f lv ls rv ros s wS' w' := by
  have n1 : ¬ T sb := hT _ (.inl (.inl rfl))
  have n2 : ¬ T gc := hT _ (.inl (.inr (.inl rfl)))
  have n3 : ¬ T gp := hT _ (.inl (.inr (.inr (.inl rfl))))
  have n4 : ¬ T gd := hT _ (.inl (.inr (.inr (.inr (.inl rfl)))))
  have n5 : ¬ T gh := hT _ (.inl (.inr (.inr (.inr (.inr rfl)))))
  obtain ⟨g_c0, g_c1, g_c2, g_c3, g_c4, g_c5, g_c6, g_c7, g_c8, g_c9, g_c10, g_c11, g_c12, g_fz, g_cost, g_pred, g_lk, g_heap, g_late, g_rnds, g_told, g_keep, g_hs, g_apL, g_apR, g_apP, g_lt, g_ne, g_nf⟩ := h
  exact ⟨kp.cu g_c0 n1, kp.cu g_c1 n1, kp.cu g_c2 n1, kp.cu g_c3 n1, kp.cu g_c4 n1, kp.cu g_c5 n1, kp.cu g_c6 n1, kp.cu g_c7 n1, kp.cu g_c8 n1, kp.cu g_c9 n1, kp.cu g_c10 n1, kp.cu g_c11 n1, kp.cu g_c12 n1,
    fun o => (kp.frozen (p := ⟨sb, o, none⟩) (show sb < _ from cell_lt g_c0) n1).trans (g_fz o),
    kp.own g_cost (fun j hj => by simp only [Value.ownBlock, Option.some.injEq] at hj; subst hj; exact n2), kp.own g_pred (fun j hj => by simp only [Value.ownBlock, Option.some.injEq] at hj; subst hj; exact n3), kp.own g_lk (fun j hj => by simp only [Value.ownBlock, Option.some.injEq] at hj; subst hj; exact n4),
    g_heap.keep kp n5 (fun j hj => hT j (.inr (.inl hj))), by rw [hs]; exact kp.own g_late (fun j hj => hT j (.inr (.inr (.inl hj)))), by rw [hs]; exact kp.own g_rnds (fun j hj => hT j (.inr (.inr (.inr (.inl hj))))), by rw [hs]; exact g_told.keep kp (fun j hj => hT j (.inr (.inr (.inr (.inr hj))))),
    hk, by rw [hs]; exact g_hs, g_apL, g_apR, g_apP, by rw [hs]; exact g_lt, g_ne, hf⟩
/-- the object between two calls, all that is its own in A -/
def AHeldS [AFr] (A : Nat → Prop) (n sb gc gp gd gh : Nat) (ev ov hv wv : Value) (tg : Int) (es : List Ed) (h : Nat → Int) (ws : List P2) (s : AS) (wS wr : World) : Prop :=
  ∃ sx, sx.told = s.told ∧ sx.done = s.done ∧ (s.told.length < ws.length → sx = s) ∧ ∃ a1 q1 c1 f1 al ll lc ls ar t rc ros, AX n sb gc gp gd gh ev ov hv wv tg (.slice a1 q1 c1) q1 f1 (.slice al ll lc) ls (.slice ar t rc) ros sx wS wr ∧ (∀ j, AOwn sb gc gp gd gh (.slice a1 q1 c1) (.slice al ll lc) (.slice ar t rc) ros j → A j) ∧ t = sx.told.length ∧ q1 ≤ 64 + eB es sx.lk ∧ ll = ls.length ∧ ll ≤ 64 + eB es sx.lk ∧ HeapOK plLt q1 f1 ∧ (∀ r, ws[sx.told.length]? = some r → AHas r h n sx (RW q1 f1)) ∧ LaL sx ls ∧ (∀ v ∈ ls, v < n) ∧ (true = true → ∀ r, ws[sx.told.length]? = some r → 0 < q1 ∧ ∃ v, ANext r h n sx v ∧ f1 0 = apl r h sx v)
theorem AHeldS.held {I : AFr} {A : Nat → Prop} {n sb gc gp gd gh : Nat} {ev ov hv wv : Value} {tg : Int} {es : List Ed} {h : Nat → Int} {ws : List P2} {s : AS} {wS wr : World} (hA : AHeldS A n sb gc gp gd gh ev ov hv wv tg es h ws s wS wr) : AHeld n sb gc gp gd gh ev ov hv wv tg es h ws s wS wr := by
  obtain ⟨sx, h1, h2, h3, a1, q1, c1, f1, al, ll, lc, ls, ar, t, rc, ros, hX, _, hr⟩ := hA
  exact ⟨sx, h1, h2, h3, a1, q1, c1, f1, al, ll, lc, ls, ar, t, rc, ros, hX, hr⟩
theorem AHeldS.rebase {I1 I2 : AFr} {A : Nat → Prop} {n sb gc gp gd gh : Nat} {ev ov hv wv : Value} {tg : Int} {es : List Ed} {h : Nat → Int} {ws : List P2} {s : AS} {wS wr wS' w' : World} (hA : @AHeldS I1 A n sb gc gp gd gh ev ov hv wv tg es h ws s wS wr) {T : Nat → Prop} (kp : Keep T wr w') (hT : ∀ j, A j → ¬ T j) (hs : wS'.heap.size = wS.heap.size) (hk : Keep (AXb sb gc gp gd gh) wS' w') (hf : ∀ A', (∀ j, A' j → A j) → @AF I2 A' w') : @AHeldS I2 A n sb gc gp gd gh ev ov hv wv tg es h ws s wS' w' := by
  obtain ⟨sx, h1, h2, h3, a1, q1, c1, f1, al, ll, lc, ls, ar, t, rc, ros, hX, hA, hr⟩ := hA
  exact ⟨sx, h1, h2, h3, a1, q1, c1, f1, al, ll, lc, ls, ar, t, rc, ros, hX.rebase kp (fun j hj => hT j (hA j hj)) hs hk (hf _ hA), hA, hr⟩
theorem AHeldS.keep {I : AFr} {A : Nat → Prop} {n sb gc gp gd gh : Nat} {ev ov hv wv : Value} {tg : Int} {es : List Ed} {h : Nat → Int} {ws : List P2} {s : AS} {wS wr : World} (hA : AHeldS A n sb gc gp gd gh ev ov hv wv tg es h ws s wS wr) : Keep (AXb sb gc gp gd gh) wS wr ∧ ∀ j, AXb sb gc gp gd gh j → A j := by
  obtain ⟨sx, h1, h2, h3, a1, q1, c1, f1, al, ll, lc, ls, ar, t, rc, ros, hX, hA, hr⟩ := hA
  exact ⟨hX.keep, fun j hj => hA j (.inl hj)⟩
/-- behind a call: all else as it was -/
theorem AHeld.owned {A : Nat → Prop} {w0 : World} {n sb gc gp gd gh : Nat} {ev ov hv wv : Value} {tg : Int} {es : List Ed} {h : Nat → Int} {ws : List P2} {s : AS} {wS wr : World} (hA : @AHeld (AFr.but A w0) n sb gc gp gd gh ev ov hv wv tg es h ws s wS wr) (hk0 : Keep (AXb sb gc gp gd gh) wS w0) : @AHeldS AFr.none (grown A w0 wr) n sb gc gp gd gh ev ov hv wv tg es h ws s wS wr ∧ Keep A w0 wr := by
  letI : AFr := AFr.but A w0
  obtain ⟨sx, h1, h2, h3, a1, q1, c1, f1, al, ll, lc, ls, ar, t, rc, ros, hX, hr⟩ := hA
  have hf := hX.nf
  have hk := hX.keep
  have hl := hX.lt
  refine ⟨⟨sx, h1, h2, h3, a1, q1, c1, f1, al, ll, lc, ls, ar, t, rc, ros, hX.rebase (I2 := AFr.none) (Keep.refl (fun _ => False) wr) (fun _ _ e => e) rfl hk (AF.ofNone _ _), fun j hj => ?_, hr⟩, hk.os.trans hk0.os.symm, hk.tape.trans hk0.tape.symm, hk.output.trans hk0.output.symm, hf.1, fun j hj hn => (hf.2 j ⟨hj, hn⟩).2.1⟩
  have hjw : j < wr.heap.size := by
    have hz := hX.big
    rcases hj with g | g | g | g | g
    · unfold AXb at g; omega
    · exact (hX.heap.own.block_lt j g).2
    · exact (hX.late.block_lt j g).2
    · exact (hX.rnds.block_lt j g).2
    · exact (hX.told.lt g).2
  by_cases ha : A j
  · exact .inl ha
  · by_cases hw : j < w0.heap.size
    · exact absurd hj (hf.2 j ⟨hw, ha⟩).2.2
    · exact .inr ⟨by omega, hjw⟩
section
attribute [local instance] AFr.none
/-- a search of the program: sb the object, A what is its own, C what it reads besides -/
def AObj (n tg : Nat) (es : List Ed) (h : Nat → Int) (ws : List P2) (s : AS) (sb : Nat) (A C : Nat → Prop) (w : World) : Prop :=
  ∃ gc gp gd gh hc wc ec ha aw ae O lo hi wS, AC n sb gc gp gd gh hc ws.length wc es.length ec ha aw ae h ws es wS ∧ OutsAt wS lo hi O n es ∧ (∀ k, lo ≤ k → k < hi → ¬ AXb sb gc gp gd gh k) ∧ AInv n h s ∧ s.told.length ≤ ws.length ∧ @AHeldS AFr.none A n sb gc gp gd gh (.slice ae es.length ec) (.slice (some ⟨O, 0, none⟩) n n) (.slice ha n hc) (.slice aw ws.length wc) (tg : Int) es h ws s wS w ∧ (∀ j, CB es ae ha aw j → C j) ∧ (∀ j, lo ≤ j → j < hi → C j) ∧ (∀ j, A j → j < w.heap.size) ∧ (∀ b o, ae = some ⟨b, o, none⟩ → es ≠ [] → ¬ AXb sb gc gp gd gh b)
section
variable {n tg : Nat} {es : List Ed} {h : Nat → Int} {ws : List P2} {s : AS} {sb : Nat} {A C : Nat → Prop} {w w' : World}
theorem AObj.lt (hO : AObj n tg es h ws s sb A C w) {j : Nat} (hj : A j) : j < w.heap.size := by
  obtain ⟨gc, gp, gd, gh, hc, wc, ec, ha, aw, ae, O, lo, hi, wS, g1, g2, g3, g4, g5, g6, g7, g8, g9, g10⟩ := hO
  exact g9 j hj
theorem AObj.inv (hO : AObj n tg es h ws s sb A C w) : AInv n h s ∧ s.told.length ≤ ws.length ∧ ws.length ≤ 8 ∧ 1 ≤ ws.length ∧ n ≤ 64 := by
  obtain ⟨gc, gp, gd, gh, hc, wc, ec, ha, aw, ae, O, lo, hi, wS, g1, g2, g3, g4, g5, g6, g7, g8, g9, g10⟩ := hO
  exact ⟨g4, g5, g1.wl.2.2, g1.wl.2.1, g1.hn.2⟩
theorem AObj.keep (hO : AObj n tg es h ws s sb A C w) {T : Nat → Prop} (kp : Keep T w w') (hT : ∀ j, A j ∨ C j → ¬ T j) : AObj n tg es h ws s sb A C w' := by
  obtain ⟨gc, gp, gd, gh, hc, wc, ec, ha, aw, ae, O, lo, hi, wS, g1, g2, g3, g4, g5, g6, g7, g8, g9, g10⟩ := hO
  obtain ⟨hk, hax⟩ := g6.keep
  have hz : wS.heap.size ≤ w'.heap.size := Nat.le_trans hk.size kp.size
  have hcs := cutW_size hz
  have hkc : Keep (fun j => AXb sb gc gp gd gh j ∨ ¬ C j) wS (cutW w' wS.heap.size) := by
    refine ⟨(kp.os.trans hk.os), kp.tape.trans hk.tape, kp.output.trans hk.output, Nat.le_of_eq hcs.symm, fun j hj hn => ?_⟩
    have h1 : ¬ AXb sb gc gp gd gh j := fun e => hn (.inl e)
    have h2 : C j := Classical.byContradiction fun e => hn (.inr e)
    rw [cutW_block hz hj, kp.block j (Nat.lt_of_lt_of_le hj hk.size) (hT j (.inr h2)), hk.block j hj h1]
  refine ⟨gc, gp, gd, gh, hc, wc, ec, ha, aw, ae, O, lo, hi, cutW w' wS.heap.size, g1.re hkc hcs (fun b o hb he => ⟨fun e => e.elim (g10 b o hb he) (fun e => e (g7 b (.inl ⟨he, o, hb⟩))), g10 b o hb he⟩) (fun b o hb e => e.elim (g1.hx b o hb) (fun e => e (g7 b (.inr (.inl ⟨o, hb⟩))))) (fun b o hb e => e.elim (g1.wx b o hb) (fun e => e (g7 b (.inr (.inr ⟨o, hb⟩))))), g2.later hkc (fun k k1 k2 e => ?_), g3, g4, g5, g6.rebase kp (fun j hj => hT j (.inl hj)) hcs (cutW_keep _ hz) (fun A' _ => AF.ofNone _ _), g7, g8, fun j hj => Nat.lt_of_lt_of_le (g9 j hj) kp.size, g10⟩
  rcases e with e | e
  · exact g3 k k1 k2 e
  · exact e (g8 k k1 k2)
theorem AObj.stays (hO : AObj n tg es h ws s sb A C w) (hb : Below w.heap.size w w') : AObj n tg es h ws s sb A C w' := hO.keep (Keep.new (S := fun _ => False) hb) (fun _ _ e => e)
/-- the cells that its Over and its Rounds read -/
theorem AObj.cells (hO : AObj n tg es h ws s sb A C w) : ∃ ar aw rc wc, w.cell? ⟨sb, 5, none⟩ = some (.slice aw ws.length wc) ∧ w.cell? ⟨sb, 12, none⟩ = some (.slice ar s.told.length rc) := by
  obtain ⟨gc, gp, gd, gh, hc, wc, ec, ha, aw, ae, O, lo, hi, wS, g1, g2, g3, g4, g5, g6, g7, g8, g9, g10⟩ := hO
  obtain ⟨sx, h1, h2, h3, a1, q1, c1, f1, al, ll, lc, ls, ar, t, rc, ros, hX, hA, ht, hr⟩ := g6
  subst ht
  rw [h1] at hX
  exact ⟨ar, aw, rc, wc, hX.c5, hX.c12⟩
theorem aobj_step (htg : tg < n) (nn : Int) (hnn : nn ≤ 9223372036854775807) (hO : AObj n tg es h ws s sb A C w) :
    Calls Try.prog 20 #[.pointer (some ⟨sb, 0, none⟩), .int .i64 nn] w fun e w' => ∃ (k : Nat) (s' : AS), e = .returned (.int .i64 (k : Int)) ∧ ASteps ws es h n tg nn.toNat s k s' ∧ AObj n tg es h ws s' sb (grown A w w') C w' ∧ Keep A w w' := by
  obtain ⟨gc, gp, gd, gh, hc, wc, ec, ha, aw, ae, O, lo, hi, wS, g1, g2, g3, g4, g5, g6, g7, g8, g9, g10⟩ := hO
  obtain ⟨hk, hax⟩ := g6.keep
  have hH := (g6.rebase (I2 := AFr.but A w) (Keep.refl (fun _ => False) w) (fun _ _ e => e) rfl hk (fun A' hA' => AF.but w hA')).held
  refine (@astep_any (AFr.but A w) n sb gc gp gd gh hc ws.length wc es.length ec ha aw ae h ws es s wS w tg O lo hi htg nn hnn hH g1 g2 g3 g4 g5).mono ?_
  rintro e w' ⟨k, s', rfl, k1, k2, k3, k4⟩
  obtain ⟨h1, h2⟩ := AHeld.owned k2 hk
  refine ⟨k, s', rfl, k1, ⟨gc, gp, gd, gh, hc, wc, ec, ha, aw, ae, O, lo, hi, wS, g1, g2, g3, k3, k4, h1, g7, g8, fun j hj => ?_, g10⟩, h2⟩
  rcases hj with hj | hj
  · exact Nat.lt_of_lt_of_le (g9 j hj) h2.size
  · exact hj.2
theorem aobj_rounds (hO : AObj n tg es h ws s sb A C w) :
    Calls Try.prog 21 #[.pointer (some ⟨sb, 0, none⟩)] w fun e w' => ∃ a c, e = .returned (.slice a s.told.length c) ∧ RoundsAt w.heap.size w' (.slice a s.told.length c) s.told ∧ Below w.heap.size w w' := by
  obtain ⟨gc, gp, gd, gh, hc, wc, ec, ha, aw, ae, O, lo, hi, wS, g1, g2, g3, g4, g5, g6, g7, g8, g9, g10⟩ := hO
  obtain ⟨sx, h1, h2, h3, a1, q1, c1, f1, al, ll, lc, ls, ar, t, rc, ros, hX, hA, ht, hr⟩ := g6
  subst ht
  have hg := g4.lp
  have h8 := g1.wl.2.2
  rw [← h1] at g5 hg ⊢
  exact @arounds_any AFr.none n sb gc gp gd gh q1 _ rc ar _ _ _ _ _ _ f1 _ ls ros sx wS w hX hg (by omega)
end
end
/-- the document's object, all that is its own in R -/
def RHeldS [AFr] (R : Nat → Prop) (n rb mb pb : Nat) (ev hv wv : Value) (fr tg : Int) (es : List Ed) (s : AS) (w1 wr : World) : Prop :=
  ∃ nm a0 k0 c0 a1 k1 c1 a2 k2 c2 sl ar t rc ros, RXf n rb mb pb nm ev hv wv fr tg (sv3 (.slice a0 k0 c0) (.slice a1 k1 c1) (.slice a2 k2 c2)) sl (.slice ar t rc) ros s w1 wr ∧ (∀ j, ROwn rb mb pb (sv3 (.slice a0 k0 c0) (.slice a1 k1 c1) (.slice a2 k2 c2)) (.slice ar t rc) ros j → R j) ∧ t = s.told.length ∧ AL n es s (sl 0) (sl 1) (sl 2) ∧ k0 = (sl 0).length ∧ k1 = (sl 1).length ∧ k2 = (sl 2).length ∧ nm ≤ 2 + 1000 * s.done
section
attribute [local instance] AFr.none
/-- a search of the document: rb the object, R what is its own, C what it reads besides -/
def RObj (n tg : Nat) (es : List Ed) (h : Nat → Int) (ws : List P2) (s : AS) (rb : Nat) (R C : Nat → Prop) (w : World) : Prop :=
  ∃ mb pb hc wk ec ha aw ae fr w1, AC n rb mb pb mb pb hc ws.length wk es.length ec ha aw ae h ws es w1 ∧ AInv n h s ∧ s.told.length ≤ ws.length ∧ (s.told.length < ws.length → ∃ r, ws[s.told.length]? = some r ∧ Left r h n tg s) ∧ @RHeldS AFr.none R n rb mb pb (.slice ae es.length ec) (.slice ha n hc) (.slice aw ws.length wk) fr (tg : Int) es s w1 w ∧ (∀ j, CB es ae ha aw j → C j) ∧ (∀ j, R j → j < w.heap.size) ∧ (∀ b o, ae = some ⟨b, o, none⟩ → es ≠ [] → ¬ RXb rb mb pb b)
section
variable {n tg : Nat} {es : List Ed} {h : Nat → Int} {ws : List P2} {s : AS} {rb : Nat} {R C : Nat → Prop} {w w' : World}
end
end
end Go.Proofs.Ytccailcjclbhlaa
