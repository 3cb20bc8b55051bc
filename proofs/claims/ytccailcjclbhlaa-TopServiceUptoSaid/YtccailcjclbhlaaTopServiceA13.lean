/-
  A part of the proof of ServePlays: SvM SvA
-/
import Derived.Test.YtccailcjclbhlaaTopServiceA12
import Derived.Test.YtccailcjclbhlaaTopServiceA6
/-! A service in memory, the program's and the document's: each owns what it made. No condition. -/
namespace Go.Proofs.Ytccailcjclbhlaa
open Go.RowKit
set_option linter.unusedSimpArgs false
set_option linter.unusedVariables false
attribute [local instance] AFr.none
/-- what is written (W) and what is only read from now on (N), thing by thing -/
structure Lay (W N : Nat → Nat → Prop) (w : World) : Prop where
  lt : ∀ i j, W i j ∨ N i j → j < w.heap.size
  sep : ∀ i k j, W i j → W k j → i = k
  ap : ∀ i k j, W i j → ¬ N k j
theorem Lay.size {W N : Nat → Nat → Prop} {w w' : World} (h : Lay W N w) (hz : w.heap.size ≤ w'.heap.size) : Lay W N w' := ⟨fun i j q => Nat.lt_of_lt_of_le (h.lt i j q) hz, h.sep, h.ap⟩
/-- thing i has other blocks now: of its own, or new ones -/
theorem Lay.upd {W N : Nat → Nat → Prop} {w w' : World} (h : Lay W N w) (hz : w.heap.size ≤ w'.heap.size) (i : Nat) {W' N' : Nat → Prop} (hW : ∀ j, W' j → W i j ∨ (w.heap.size ≤ j ∧ j < w'.heap.size)) (hN : ∀ j, N' j → W i j ∨ N i j ∨ (w.heap.size ≤ j ∧ j < w'.heap.size)) (hd : ∀ j, W' j → ¬ N' j) : Lay (upz W i W') (upz N i N') w' := by
  have cW : ∀ k j, upz W i W' k j → (k = i ∧ W' j) ∨ (k ≠ i ∧ W k j) := fun k j q => by
    unfold upz at q
    by_cases e : k = i
    · rw [if_pos e] at q; exact .inl ⟨e, q⟩
    · rw [if_neg e] at q; exact .inr ⟨e, q⟩
  have cN : ∀ k j, upz N i N' k j → (k = i ∧ N' j) ∨ (k ≠ i ∧ N k j) := fun k j q => by
    unfold upz at q
    by_cases e : k = i
    · rw [if_pos e] at q; exact .inl ⟨e, q⟩
    · rw [if_neg e] at q; exact .inr ⟨e, q⟩
  refine ⟨fun k j q => ?_, fun k l j q r => ?_, fun k l j q r => ?_⟩
  · rcases q with q | q
    · rcases cW k j q with ⟨_, q⟩ | ⟨_, q⟩
      · rcases hW j q with q | q
        · exact Nat.lt_of_lt_of_le (h.lt i j (.inl q)) hz
        · exact q.2
      · exact Nat.lt_of_lt_of_le (h.lt k j (.inl q)) hz
    · rcases cN k j q with ⟨_, q⟩ | ⟨_, q⟩
      · rcases hN j q with q | q | q
        · exact Nat.lt_of_lt_of_le (h.lt i j (.inl q)) hz
        · exact Nat.lt_of_lt_of_le (h.lt i j (.inr q)) hz
        · exact q.2
      · exact Nat.lt_of_lt_of_le (h.lt k j (.inr q)) hz
  · rcases cW k j q with ⟨e1, q⟩ | ⟨e1, q⟩ <;> rcases cW l j r with ⟨e2, r⟩ | ⟨e2, r⟩
    · rw [e1, e2]
    · rcases hW j q with q | q
      · exact absurd (h.sep l i j r q) e2
      · exact absurd (h.lt l j (.inl r)) (by omega)
    · rcases hW j r with r | r
      · exact absurd (h.sep k i j q r) e1
      · exact absurd (h.lt k j (.inl q)) (by omega)
    · exact h.sep k l j q r
  · rcases cW k j q with ⟨e1, q⟩ | ⟨e1, q⟩ <;> rcases cN l j r with ⟨e2, r⟩ | ⟨e2, r⟩
    · exact hd j q r
    · rcases hW j q with q | q
      · exact h.ap i l j q r
      · exact absurd (h.lt l j (.inr r)) (by omega)
    · rcases hN j r with r | r | r
      · exact e1 (h.sep k i j q r)
      · exact h.ap k i j q r
      · exact absurd (h.lt k j (.inl q)) (by omega)
    · exact h.ap k l j q r
theorem Lay.other {W N : Nat → Nat → Prop} {w : World} (h : Lay W N w) {i k : Nat} (hne : k ≠ i) : ∀ j, W k j ∨ N k j → ¬ W i j := fun j q r => by
  rcases q with q | q
  · exact hne (h.sep k i j q r)
  · exact h.ap i k j r q
def rv0 : RV := ⟨0, 0, none, 0, 0, 0, 0⟩
/-- what was told last on another ground -/
def KeptAt (w : World) (rv : RV) (k : Option RD) : Prop := match k with | none => rv = rv0 | some r => RoundAt w 0 rv r
theorem RoundAt.keepB {T : Nat → Prop} {w w' : World} {b : Nat} {rv : RV} {r : RD} (h : RoundAt w b rv r) (kp : Keep T w w') (hT : ∀ j, (Value.slice rv.pa rv.pm rv.pc).ownBlock = some j → ¬ T j) : RoundAt w' b rv r := by
  obtain ⟨h1, h2, h3, h4, h5, h6⟩ := h
  exact ⟨h1, h2, h3, h4, h5, kp.own h6 hT⟩
theorem KeptAt.keep {T : Nat → Prop} {w w' : World} {rv : RV} {k : Option RD} (h : KeptAt w rv k) (kp : Keep T w w') (hT : ∀ j, (Value.slice rv.pa rv.pm rv.pc).ownBlock = some j → ¬ T j) : KeptAt w' rv k := by
  cases k with
  | none => exact h
  | some r => exact RoundAt.keepB h kp hT
/-- a request of the program at xb: sb its search -/
structure PQc (es : List Ed) (n : Nat) (q : Sq) (xb sb cw : Nat) (aw : Option Addr) (rv : RV) (A C W N : Nat → Prop) (w : World) : Prop where
  x0 : w.cell? ⟨xb, 0, none⟩ = some (.pointer (some ⟨sb, 0, none⟩))
  x1 : w.cell? ⟨xb, 1, none⟩ = some (.int .i64 (q.f : Int))
  x2 : w.cell? ⟨xb, 2, none⟩ = some (.int .i64 (q.t : Int))
  x3 : w.cell? ⟨xb, 3, none⟩ = some (.slice aw q.ws.length cw)
  x4 : w.cell? ⟨xb, 4, none⟩ = some (.int .i64 rv.na)
  x5 : w.cell? ⟨xb, 5, none⟩ = some (.int .i64 rv.nb)
  x6 : w.cell? ⟨xb, 6, none⟩ = some (.slice rv.pa rv.pm rv.pc)
  x7 : w.cell? ⟨xb, 7, none⟩ = some (.int .i64 rv.rc)
  x8 : w.cell? ⟨xb, 8, none⟩ = some (.int .i64 rv.dn)
  x9 : w.cell? ⟨xb, 9, none⟩ = some (.bool q.kept.isSome)
  fz : ∀ o, w.frozen? ⟨xb, o, none⟩ = false
  obj : AObj n q.t es hZ q.ws q.s sb A C w
  wr : Row encP 2 w w.heap.size aw q.ws
  kp : KeptAt w rv q.kept
  wx : W xb
  ax : ¬ A xb
  aW : ∀ j, A j → W j
  cN : ∀ j, C j → N j
  wN : ∀ j o, aw = some ⟨j, o, none⟩ → N j
  pN : ∀ j, (Value.slice rv.pa rv.pm rv.pc).ownBlock = some j → N j
theorem PQc.keep {es : List Ed} {n : Nat} {q : Sq} {xb sb cw : Nat} {aw : Option Addr} {rv : RV} {A C W N T : Nat → Prop} {w w' : World} (h : PQc es n q xb sb cw aw rv A C W N w) (kp : Keep T w w') (hT : ∀ j, W j ∨ N j → ¬ T j) : PQc es n q xb sb cw aw rv A C W N w' := by
  have hx : ¬ T xb := hT _ (.inl h.wx)
  exact ⟨kp.cu h.x0 hx, kp.cu h.x1 hx, kp.cu h.x2 hx, kp.cu h.x3 hx, kp.cu h.x4 hx, kp.cu h.x5 hx, kp.cu h.x6 hx, kp.cu h.x7 hx, kp.cu h.x8 hx, kp.cu h.x9 hx,
    fun o => (kp.frozen (p := ⟨xb, o, none⟩) (show xb < _ from cell_lt h.x0) hx).trans (h.fz o),
    h.obj.keep kp (fun j q => hT j (q.elim (fun a => .inl (h.aW j a)) (fun c => .inr (h.cN j c)))), (row_keep h.wr kp (fun b o e => hT b (.inr (h.wN b o e)))).mono kp.size, h.kp.keep kp (fun j e => hT j (.inr (h.pN j e))), h.wx, h.ax, h.aW, h.cN, h.wN, h.pN⟩
def PQ (es : List Ed) (n : Nat) (q : Sq) (xb : Nat) (W N : Nat → Prop) (w : World) : Prop := ∃ sb cw aw rv A C, PQc es n q xb sb cw aw rv A C W N w
def PSl (es : List Ed) (n : Nat) (oq : Option Sq) (ox : Option Nat) (W N : Nat → Prop) (w : World) : Prop :=
  (oq = none ∧ ox = none) ∨ ∃ q x, oq = some q ∧ ox = some x ∧ PQ es n q x W N w
theorem PSl.keep {es : List Ed} {n : Nat} {oq : Option Sq} {ox : Option Nat} {W N T : Nat → Prop} {w w' : World} (h : PSl es n oq ox W N w) (kp : Keep T w w') (hT : ∀ j, W j ∨ N j → ¬ T j) : PSl es n oq ox W N w' := by
  rcases h with h | ⟨q, x, h1, h2, sb, cw, aw, rv, A, C, h3⟩
  · exact .inl h
  · exact .inr ⟨q, x, h1, h2, sb, cw, aw, rv, A, C, h3.keep kp hT⟩
def xP (x : Option Nat) : Value := .pointer (x.map fun b => ⟨b, 0, none⟩)
/-- the program's service at svb, each request on edges of its own -/
structure PSx (σ : Sv) (ef : Nat → List Ed) (svb : Nat) (ga : Option Addr) (gc : Nat) (xs : Nat → Option Nat) (W N : Nat → Nat → Prop) (w : World) : Prop where
  lay : Lay W N w
  c0 : w.cell? ⟨svb, 0, none⟩ = some (.int .i64 σ.W)
  c1 : w.cell? ⟨svb, 1, none⟩ = some (.int .i64 σ.H)
  c2 : w.cell? ⟨svb, 2, none⟩ = some (.slice ga σ.cs.length gc)
  cx : ∀ i, i < 6 → w.cell? ⟨svb, 3 + i, none⟩ = some (xP (xs i))
  c9 : w.cell? ⟨svb, 9, none⟩ = some (.int .i64 (σ.turn : Int))
  fz : ∀ o, w.frozen? ⟨svb, o, none⟩ = false
  own : W 6 svb
  grd : Own encI 1 3 w 0 (.slice ga σ.cs.length gc) σ.cs
  gown : ∀ j, (Value.slice ga σ.cs.length gc).ownBlock = some j → W 7 j
  sl : ∀ i, i < 6 → PSl (ef i) σ.cs.length (σ.sl i) (xs i) (W i) (N i) w
section
variable {σ : Sv} {ef : Nat → List Ed} {svb gc : Nat} {ga : Option Addr} {xs : Nat → Option Nat} {W N : Nat → Nat → Prop} {T : Nat → Prop} {w w' : World}
theorem PSx.keep (h : PSx σ ef svb ga gc xs W N w) (kp : Keep T w w') (hT : ∀ i j, W i j ∨ N i j → ¬ T j) : PSx σ ef svb ga gc xs W N w' := by
  have hx : ¬ T svb := hT 6 _ (.inl h.own)
  exact ⟨h.lay.size kp.size, kp.cu h.c0 hx, kp.cu h.c1 hx, kp.cu h.c2 hx, fun i hi => kp.cu (h.cx i hi) hx, kp.cu h.c9 hx, fun o => (kp.frozen (p := ⟨svb, o, none⟩) (show svb < _ from cell_lt h.c0) hx).trans (h.fz o), h.own,
    kp.own h.grd (fun j e => hT 7 j (.inl (h.gown j e))), h.gown, fun i hi => (h.sl i hi).keep kp (hT i)⟩
theorem PSx.stays (h : PSx σ ef svb ga gc xs W N w) (hb : Below w.heap.size w w') : PSx σ ef svb ga gc xs W N w' := h.keep (Keep.new (S := fun _ => False) hb) (fun _ _ _ e => e)
theorem PSx.row (h : PSx σ ef svb ga gc xs W N w) : Row encI 1 w w.heap.size ga σ.cs := by
  obtain ⟨a, c, e, hr, _⟩ := h.grd.row lenI
  cases e
  exact hr
/-- request k is another now -/
theorem PSx.slot (h : PSx σ ef svb ga gc xs W N w) {k : Nat} (hk : k < 6) (kp : Keep T w w') (hT : ∀ j, T j → j = svb ∨ W k j) (hc : ∀ o, o ≠ 3 + k → ∀ v, w.cell? ⟨svb, o, none⟩ = some v → w'.cell? ⟨svb, o, none⟩ = some v) {x : Option Nat} (hck : w'.cell? ⟨svb, 3 + k, none⟩ = some (xP x)) (hf : ∀ o, w'.frozen? ⟨svb, o, none⟩ = false) (oq : Option Sq) (es : List Ed) {W' N' : Nat → Prop} (hW : ∀ j, W' j → W k j ∨ (w.heap.size ≤ j ∧ j < w'.heap.size)) (hN : ∀ j, N' j → W k j ∨ N k j ∨ (w.heap.size ≤ j ∧ j < w'.heap.size)) (hd : ∀ j, W' j → ¬ N' j) (hs : PSl es σ.cs.length oq x W' N' w') :
    PSx { σ with sl := upz σ.sl k oq } (upz ef k es) svb ga gc (upz xs k x) (upz W k W') (upz N k N') w' := by
  have h6 : (6 : Nat) ≠ k := by omega
  have h7 : (7 : Nat) ≠ k := by omega
  refine ⟨h.lay.upd kp.size k hW hN hd, hc 0 (by omega) _ h.c0, hc 1 (by omega) _ h.c1, hc 2 (by omega) _ h.c2, fun i hi => ?_, hc 9 (by omega) _ h.c9, hf, by rw [upz_other _ _ h6]; exact h.own, kp.own h.grd (fun j e ht => ?_), fun j e => by rw [upz_other _ _ h7]; exact h.gown j e, fun i hi => ?_⟩
  · by_cases e : i = k
    · subst e; rw [upz_same]; exact hck
    · rw [upz_other _ _ e]; exact hc _ (by omega) _ (h.cx i hi)
  · have h1 := h.gown j e
    rcases hT j ht with rfl | ht
    · exact absurd (h.lay.sep 6 7 _ h.own h1) (by omega)
    · exact absurd (h.lay.sep k 7 _ ht h1) (by omega)
  · by_cases e : i = k
    · subst e
      simp only [upz_same]
      exact hs
    · simp only [upz_other _ _ e]
      refine (h.sl i hi).keep kp (fun j q ht => ?_)
      rcases hT j ht with rfl | ht
      · exact h.lay.other (i := 6) (k := i) (by omega) _ q h.own
      · exact h.lay.other e j q ht
/-- its turn is another now -/
theorem PSx.turned (h : PSx σ ef svb ga gc xs W N w) (u : Nat) : PSx { σ with turn := u } ef svb ga gc xs W N (w.setCell ⟨svb, 9, none⟩ (.int .i64 (u : Int))) := by
  have kp := (Keep.refl (fun j => j = svb) w).setCell (p := ⟨svb, 9, none⟩) (.inl rfl) (.int .i64 (u : Int))
  refine ⟨h.lay.size kp.size, cu_set_off h.c0 (by omega), cu_set_off h.c1 (by omega), cu_set_off h.c2 (by omega), fun i hi => cu_set_off (h.cx i hi) (by omega), World.cell?_setCell_same' _ _ _ (by rw [h.c9]; rfl), fun o => fu_set (h.fz o), h.own, kp.own h.grd (fun j e q => ?_), h.gown, fun i hi => (h.sl i hi).keep kp (fun j q e => ?_)⟩
  · subst q; exact absurd (h.lay.sep 6 7 _ h.own (h.gown _ e)) (by omega)
  · subst e; exact h.lay.other (i := 6) (k := i) (by omega) _ q h.own
/-- a cell of its ground is another now -/
theorem PSx.ground (h : PSx σ ef svb ga gc xs W N w) (a : Nat) (ha : a < σ.cs.length) (g : Int) : ∃ b, ga = some ⟨b, 0, none⟩ ∧ W 7 b ∧ w.cell? ⟨b, a, none⟩ = some (.int .i64 σ.cs[a]) ∧ (∀ o, w.frozen? ⟨b, o, none⟩ = false) ∧ PSx { σ with cs := σ.cs.set a g } ef svb ga gc xs W N (w.setCell ⟨b, a, none⟩ (.int .i64 g)) := by
  rcases h.grd.form with ⟨h1, h2⟩ | ⟨b, cap, h1, h2, h3, h4⟩
  · rw [h2] at ha; simp at ha
  · simp only [Value.slice.injEq] at h1
    obtain ⟨rfl, -, rfl⟩ := h1
    have hw : W 7 b := h.gown b rfl
    have hne : b ≠ svb := fun e => by rw [e] at hw; exact absurd (h.lay.sep 6 7 _ h.own hw) (by omega)
    have kp := (Keep.refl (fun j => j = b) w).setCell (p := ⟨b, a, none⟩) (.inl rfl) (.int .i64 g)
    have hx : ¬ (svb = b) := fun e => hne e.symm
    have hl : (σ.cs.set a g).length = σ.cs.length := List.length_set
    refine ⟨b, rfl, hw, h.grd.getI a ha, fun o => h.grd.free o, ⟨h.lay.size kp.size, kp.cu h.c0 hx, kp.cu h.c1 hx, by rw [hl]; exact kp.cu h.c2 hx, fun i hi => kp.cu (h.cx i hi) hx, kp.cu h.c9 hx, fun o => fu_set (h.fz o), h.own, by rw [hl]; exact h.grd.putI a ha g, by rw [hl]; exact h.gown, fun i hi => by rw [hl]; exact (h.sl i hi).keep kp (fun j q e => by subst e; exact h.lay.other (i := 7) (k := i) (by omega) _ q hw)⟩⟩
end
/-- the program's service: P what is its own -/
def PSv (σ : Sv) (svb : Nat) (P : Nat → Prop) (w : World) : Prop := SvOk σ ∧ (∀ j, P j → j < w.heap.size) ∧ ∃ ga gc xs W N, PSx σ (fun _ => σ.es) svb ga gc xs W N w ∧ ∀ i j, W i j ∨ N i j → P j
theorem PSv.keep {σ : Sv} {svb : Nat} {P T : Nat → Prop} {w w' : World} (h : PSv σ svb P w) (kp : Keep T w w') (hT : ∀ j, P j → ¬ T j) : PSv σ svb P w' := by
  obtain ⟨h1, h2, ga, gc, xs, W, N, h3, h4⟩ := h
  exact ⟨h1, fun j q => Nat.lt_of_lt_of_le (h2 j q) kp.size, ga, gc, xs, W, N, h3.keep kp (fun i j q => hT j (h4 i j q)), h4⟩
theorem PSv.stays {σ : Sv} {svb : Nat} {P : Nat → Prop} {w w' : World} (h : PSv σ svb P w) (hb : Below w.heap.size w w') : PSv σ svb P w' := h.keep (Keep.new (S := fun _ => False) hb) (fun _ _ e => e)
/-- a request as the document holds it -/
structure AV where
  is : Bool
  f : Int
  t : Int
  aw : Option Addr
  am : Nat
  ac : Nat
  p : Option Addr
  ka : Option Addr
  km : Nat
  kc : Nat
def encA (r : AV) : List Value := [.bool r.is, .int .i64 r.f, .int .i64 r.t, .slice r.aw r.am r.ac, .pointer r.p, .slice r.ka r.km r.kc]
def av0 : AV := ⟨false, 0, 0, none, 0, 0, none, none, 0, 0⟩
/-- the row of the one told last on another ground -/
def KRow (w : World) (N : Nat → Prop) (ka : Option Addr) (km : Nat) (k : Option RD) : Prop := match k with
  | none => km = 0
  | some r => km = 1 ∧ ∃ kb ko rv, ka = some ⟨kb, ko, none⟩ ∧ (∀ j u, (encR rv)[j]? = some u → w.cell? ⟨kb, ko + j, none⟩ = some u) ∧ RoundAt w 0 rv r ∧ N kb ∧ ∀ j, (Value.slice rv.pa rv.pm rv.pc).ownBlock = some j → N j
/-- a request of the document: rb its search -/
structure RQc (es : List Ed) (n : Nat) (q : Sq) (r : AV) (rb : Nat) (R C W N : Nat → Prop) (w : World) : Prop where
  a0 : r.is = true
  a1 : r.f = (q.f : Int)
  a2 : r.t = (q.t : Int)
  a3 : r.am = q.ws.length
  a4 : r.p = some ⟨rb, 0, none⟩
  obj : RObj n q.t es hZ q.ws q.s rb R C w
  wr : Row encP 2 w w.heap.size r.aw q.ws
  kp : KRow w N r.ka r.km q.kept
  rW : ∀ j, R j → W j
  cN : ∀ j, C j → N j
  wN : ∀ j o, r.aw = some ⟨j, o, none⟩ → N j
def RQ (es : List Ed) (n : Nat) (q : Sq) (r : AV) (W N : Nat → Prop) (w : World) : Prop := ∃ rb R C, RQc es n q r rb R C W N w
def RSl (es : List Ed) (n : Nat) (oq : Option Sq) (r : AV) (W N : Nat → Prop) (w : World) : Prop := (oq = none ∧ r = av0) ∨ ∃ q, oq = some q ∧ RQ es n q r W N w
/-- the document's service at rvb, each request on edges of its own -/
structure RSx (σ : Sv) (ef : Nat → List Ed) (rvb : Nat) (ga : Option Addr) (gc : Nat) (xs : Nat → AV) (W N : Nat → Nat → Prop) (w : World) : Prop where
  lay : Lay W N w
  c0 : w.cell? ⟨rvb, 0, none⟩ = some (.int .i64 σ.W)
  c1 : w.cell? ⟨rvb, 1, none⟩ = some (.int .i64 σ.H)
  c2 : w.cell? ⟨rvb, 2, none⟩ = some (.slice ga σ.cs.length gc)
  cx : ∀ i, i < 6 → ∀ k u, (encA (xs i))[k]? = some u → w.cell? ⟨rvb, 3 + i * 6 + k, none⟩ = some u
  c9 : w.cell? ⟨rvb, 39, none⟩ = some (.int .i64 (σ.turn : Int))
  fz : ∀ o, w.frozen? ⟨rvb, o, none⟩ = false
  own : W 6 rvb
  grd : Own encI 1 3 w 0 (.slice ga σ.cs.length gc) σ.cs
  gown : ∀ j, (Value.slice ga σ.cs.length gc).ownBlock = some j → W 7 j
  sl : ∀ i, i < 6 → RSl (ef i) σ.cs.length (σ.sl i) (xs i) (W i) (N i) w
section
variable {σ : Sv} {ef : Nat → List Ed} {rvb gc : Nat} {ga : Option Addr} {xs : Nat → AV} {W N : Nat → Nat → Prop} {T : Nat → Prop} {w w' : World}
end
end Go.Proofs.Ytccailcjclbhlaa
/-! serve.New, Ground, and its search. Conditions: stated with each. -/
namespace Go.Proofs.Ytccailcjclbhlaa
open Go.RowKit
set_option linter.unusedSimpArgs false
set_option linter.unusedVariables false
attribute [local instance] AFr.none
/-- the ground lies at the first cells of b -/
def Gd (W H : Int) (cs : List Int) (b : Nat) (w : World) : Prop := ∃ ga gc, w.cell? ⟨b, 0, none⟩ = some (.int .i64 W) ∧ w.cell? ⟨b, 1, none⟩ = some (.int .i64 H) ∧ w.cell? ⟨b, 2, none⟩ = some (.slice ga cs.length gc) ∧ Row encI 1 w w.heap.size ga cs
theorem PSx.gd {σ : Sv} {ef : Nat → List Ed} {svb gc : Nat} {ga : Option Addr} {xs : Nat → Option Nat} {W N : Nat → Nat → Prop} {w : World} (h : PSx σ ef svb ga gc xs W N w) : Gd σ.W σ.H σ.cs svb w := ⟨ga, gc, h.c0, h.c1, h.c2, h.row⟩
/-- a slice of numbers, made anew -/
def GridBack (W H : Int) (cs : List Int) (w : World) (e : Ending) (w' : World) : Prop := ∃ a c, e = .returned (.agg #[.int .i64 W, .int .i64 H, .slice a cs.length c]) ∧ Own encI 1 3 w' w.heap.size (.slice a cs.length c) cs ∧ Below w.heap.size w w'
set_option maxRecDepth 100000 in
set_option maxHeartbeats 2000000 in
theorem copied_any (W H : Int) (a : Option Addr) (cap : Nat) (cs : List Int) (w : World) (B : Nat) (hB : B ≤ w.heap.size) (hE : Row encI 1 w B a cs) (hl : cs.length ≤ 100000) :
    Calls Try.prog 16 #[.agg #[.int .i64 W, .int .i64 H, .slice a cs.length cap]] w (GridBack W H cs w) := by
  obtain ⟨m, hm⟩ : ∃ m, m = cs.length := ⟨_, rfl⟩
  unfold GridBack
  rw [← hm] at hl ⊢
  replace hm := hide hm
  replace hE := hide hE
  go_enter Try.func16, Try.ntmps16
  go_wp2
  obtain ⟨w0, h0⟩ : ∃ w0, w0 = ((w.alloc (.cells #[.int .i64 W, .int .i64 H, .slice a m cap] 24)).alloc (.cells #[.int .i64 0, .int .i64 0, .slice none 0 0] 24)) := ⟨_, rfl⟩
  have hB0 : Below w.heap.size w w0 := by rw [h0]; exact bel
  have k0 : w0.cell? ⟨w.heap.size, 0, none⟩ = some (.int .i64 W) := by rw [h0]; simp [go_sem]
  have k1 : w0.cell? ⟨w.heap.size, 1, none⟩ = some (.int .i64 H) := by rw [h0]; simp [go_sem]
  have k2 : w0.cell? ⟨w.heap.size, 2, none⟩ = some (.slice a m cap) := by rw [h0]; simp [go_sem]
  have r0 : w0.cell? ⟨w.heap.size + 1, 0, none⟩ = some (.int .i64 0) := by rw [h0]; simp [go_sem]
  have r1 : w0.cell? ⟨w.heap.size + 1, 1, none⟩ = some (.int .i64 0) := by rw [h0]; simp [go_sem]
  have r2 : w0.cell? ⟨w.heap.size + 1, 2, none⟩ = some (.slice none 0 0) := by rw [h0]; simp [go_sem]
  have f0 : w0.frozen? ⟨w.heap.size + 1, 0, none⟩ = false := by rw [h0]; simp [go_sem]
  have f1 : w0.frozen? ⟨w.heap.size + 1, 1, none⟩ = false := by rw [h0]; simp [go_sem]
  have f2 : w0.frozen? ⟨w.heap.size + 1, 2, none⟩ = false := by rw [h0]; simp [go_sem]
  have hz : w.heap.size + 1 < w0.heap.size := cell_lt r0
  have hz' : w.heap.size < w0.heap.size := by omega
  have hE0 := hide ((hE.out.below hB0 hB).mono (show B ≤ w0.heap.size by omega))
  simp only [← h0]
  replace hB0 := hide hB0
  clear h0
  go_region_law (first
    | (refine step_pushAll (base := w0.heap.size) (xs := ([] : List Int)) (v := .slice none 0 0) rfl (.const (.slice none 0 0)) (.tmp 8) 22 rfl _ 8 Try.underlying22 info_int rfl (by omega) lenI oneI 0 rfl rfl (Own.nil _ _) w0.heap.size a m cap cs hm.out.symm rfl ?_ (by omega) (by unfold maxLen; omega) (Nat.le_refl _) ?_; (next => first | exact hE0.out | exact hE0.out.below (below_drew _) (Nat.le_refl _)); intro a4 c4 w4 own4 hb4 hg4; have j0 := cu_below hb4 r0 hz; have j1 := cu_below hb4 r1 hz; have j5 := cu_below hb4 r2 hz; have j2 := fu_below hb4 f0 hz; have j3 := fu_below hb4 f1 hz; have j4 := fu_below hb4 f2 hz; have hz4 := hb4.size; have i0 := cu_below hb4 k0 hz'; have i1 := cu_below hb4 k1 hz'; have i2 := cu_below hb4 k2 hz'))
  all_goals
    have hb4' : Below w0.heap.size w0 w4 := by first | exact hb4 | exact (below_drew w0).trans hb4
    have own5 : Own encI 1 3 w4 w0.heap.size (.slice a4 m c4) cs := by simpa using own4
    have hne : ∀ {b : Nat}, b < w0.heap.size → (Value.slice a4 m c4).ownBlock ≠ some b := fun {b} hb e => by have := (own5.block_lt b e).1; omega
    have own6 := hide ((((own5.elsewhere (p := ⟨w.heap.size + 1, 0, none⟩) (hne hz) (.int .i64 W)).elsewhere (p := ⟨w.heap.size + 1, 1, none⟩) (hne hz) (.int .i64 H)).elsewhere (p := ⟨w.heap.size + 1, 2, none⟩) (hne hz) (.slice a4 m c4)).base_le (show w.heap.size ≤ w0.heap.size by omega))
    have hbf := hide ((((hB0.out.trans (hb4'.mono (by omega))).setCell (p := ⟨w.heap.size + 1, 0, none⟩) (by simp) (.int .i64 W)).setCell (p := ⟨w.heap.size + 1, 1, none⟩) (by simp) (.int .i64 H)).setCell (p := ⟨w.heap.size + 1, 2, none⟩) (by simp) (.slice a4 m c4))
    clear own4 own5 hne hb4 hb4' hg4
    go_wp2
    refine bodyPost_ret (v := .agg #[.int .i64 W, .int .i64 H, .slice a4 m c4]) (by simp [results, Try.results16, go_sem, j0, j1, j5, hz4]) rfl ⟨a4, c4, rfl, own6.out, hbf.out⟩
theorem sground_any (W H : Int) (cs : List Int) (svb : Nat) (w : World) (hG : Gd W H cs svb w) (hl : cs.length ≤ 100000) :
    Calls Try.prog 11 #[.pointer (some ⟨svb, 0, none⟩)] w (GridBack W H cs w) := by
  obtain ⟨ga, gc, c0, c1, c2, hr⟩ := hG
  have z0 := cell_lt c0
  simp only at z0
  have hC := hide (fun (w' : World) (hb : Below w.heap.size w w') => copied_any W H ga gc cs w' w.heap.size hb.size (hr.below hb (Nat.le_refl _)) hl)
  obtain ⟨m, hm⟩ : ∃ m, m = cs.length := ⟨_, rfl⟩
  unfold GridBack at *
  rw [← hm] at c2 hC ⊢
  replace hm := hide hm
  clear hr hl
  go_enter Try.func11, Try.ntmps11
  go_wp2_with fail
  refine (hC.out _ (by exact bel)).mono ?_
  rintro e w1 ⟨a, c, rfl, own, hb⟩
  have hb1 := hide ((bel : Below w.heap.size w (w.alloc (.cells #[.int .i64 0, .int .i64 0, .slice none 0 0] 24))).trans (hb.mono (by simp)))
  have r0 := cu_below hb (p := ⟨w.heap.size, 0, none⟩) (v := .int .i64 0) (by simp [go_sem]) (by simp)
  have r1 := cu_below hb (p := ⟨w.heap.size, 1, none⟩) (v := .int .i64 0) (by simp [go_sem]) (by simp)
  have r2 := cu_below hb (p := ⟨w.heap.size, 2, none⟩) (v := .slice none 0 0) (by simp [go_sem]) (by simp)
  have f0 := fu_below hb (p := ⟨w.heap.size, 0, none⟩) (by simp [go_sem]) (by simp)
  have f1 := fu_below hb (p := ⟨w.heap.size, 1, none⟩) (by simp [go_sem]) (by simp)
  have f2 := fu_below hb (p := ⟨w.heap.size, 2, none⟩) (by simp [go_sem]) (by simp)
  have hz1 : w.heap.size < w1.heap.size := cell_lt r0
  have hne : (Value.slice a m c).ownBlock ≠ some w.heap.size := fun e => by have := (own.block_lt _ e).1; (try simp at this); omega
  have own6 := hide ((((own.elsewhere (p := ⟨w.heap.size, 0, none⟩) hne (.int .i64 W)).elsewhere (p := ⟨w.heap.size, 1, none⟩) hne (.int .i64 H)).elsewhere (p := ⟨w.heap.size, 2, none⟩) hne (.slice a m c)).base_le (show w.heap.size ≤ _ by simp))
  have hbf := hide (((hb1.out.setCell (p := ⟨w.heap.size, 0, none⟩) (by simp) (.int .i64 W)).setCell (p := ⟨w.heap.size, 1, none⟩) (by simp) (.int .i64 H)).setCell (p := ⟨w.heap.size, 2, none⟩) (by simp) (.slice a m c))
  clear own hne hb hb1 hC
  go_wp2
  refine bodyPost_ret (v := .agg #[.int .i64 W, .int .i64 H, .slice a m c]) (by simp [results, Try.results11, go_sem, r0, r1, r2, hz1]) rfl ⟨a, c, rfl, own6.out, hbf.out⟩
theorem snew_bad (W H : Int) (a : Option Addr) (cap : Nat) (cs : List Int) (w : World) (B : Nat) (hB : B ≤ w.heap.size) (hE : Row encI 1 w B a cs) (hl : cs.length ≤ 9223372036854775807) (h0 : gridErr W H cs ≠ 0) :
    Calls Try.prog 4 #[.agg #[.int .i64 W, .int .i64 H, .slice a cs.length cap]] w fun e w' => e = .returned (.tuple #[.pointer none, .int .i64 (gridErr W H cs)]) ∧ Below w.heap.size w w' := by
  have hC := hide (fun (w' : World) (hb : Below w.heap.size w w') => gcheck_any W H a cap cs w' B (Nat.le_trans hB hb.size) (hE.below hb hB) hl)
  obtain ⟨er, her⟩ : ∃ er, er = gridErr W H cs := ⟨_, rfl⟩
  obtain ⟨m, hm⟩ : ∃ m, m = cs.length := ⟨_, rfl⟩
  rw [← her] at h0 hC ⊢
  rw [← hm] at hC ⊢
  have q0 : (er != 0) = true := by simp [h0]
  replace her := hide her
  replace hm := hide hm
  clear hE hl h0
  go_enter Try.func4, Try.ntmps4
  go_wp2_with fail
  refine (hC.out _ (by exact bel)).mono ?_
  rintro e w1 ⟨rfl, hb1⟩
  go_wp2
  refine bodyPost_ret (v := .tuple #[.pointer none, .int .i64 er]) (by simp [results, Try.results4, go_sem]) rfl ⟨rfl, bel⟩
theorem PSv.fresh {W H : Int} {cs : List Int} {ga : Option Addr} {gc b0 : Nat} {w1 : World} {ty : TypeId} (h0 : gridErr W H cs = 0) (own : Own encI 1 3 w1 b0 (.slice ga cs.length gc) cs) (hb : b0 ≤ w1.heap.size) :
    PSv (sv0 W H cs) w1.heap.size (fun j => j = w1.heap.size ∨ (Value.slice ga cs.length gc).ownBlock = some j) (w1.alloc (.cells #[.int .i64 W, .int .i64 H, .slice ga cs.length gc, .pointer none, .pointer none, .pointer none, .pointer none, .pointer none, .pointer none, .int .i64 0] ty)) := by
  have hlt := fun j => own.block_lt j
  refine ⟨⟨h0, by show 0 < 6; omega, fun i q _ h => by cases h⟩, fun j hj => ?_, ga, gc, fun _ => none, fun i j => (i = 6 ∧ j = w1.heap.size) ∨ (i = 7 ∧ (Value.slice ga cs.length gc).ownBlock = some j), fun _ _ => False, ⟨⟨fun i j q => ?_, fun i k j q r => ?_, fun _ _ _ _ h => h⟩, by simp [go_sem]; rfl, by simp [go_sem]; rfl, by simp [go_sem]; rfl, fun i hi => ?_, by simp [go_sem]; rfl, fun o => by simp [go_sem], .inl ⟨rfl, rfl⟩, (own.alloc _).base_le (Nat.zero_le _), fun j e => .inr ⟨rfl, e⟩, fun i hi => .inl ⟨rfl, rfl⟩⟩, fun i j q => ?_⟩
  · rcases hj with rfl | hj
    · simp
    · have := (hlt j hj).2; simp; omega
  · rcases q with (⟨_, rfl⟩ | ⟨_, q⟩) | q
    · simp
    · have := (hlt j q).2; simp; omega
    · exact q.elim
  · rcases q with ⟨rfl, rfl⟩ | ⟨rfl, q⟩ <;> rcases r with ⟨rfl, r⟩ | ⟨rfl, r⟩
    · rfl
    · have := (hlt _ r).2; omega
    · have := (hlt _ q).2; omega
    · rfl
  · match i, hi with
    | 0, _ => simp [go_sem, xP]
    | 1, _ => simp [go_sem, xP]
    | 2, _ => simp [go_sem, xP]
    | 3, _ => simp [go_sem, xP]
    | 4, _ => simp [go_sem, xP]
    | 5, _ => simp [go_sem, xP]
  · rcases q with (⟨_, q⟩ | ⟨_, q⟩) | q
    · exact .inl q
    · exact .inr q
    · exact q.elim
theorem snew_ok (W H : Int) (a : Option Addr) (cap : Nat) (cs : List Int) (w : World) (B : Nat) (hB : B ≤ w.heap.size) (hE : Row encI 1 w B a cs) (hl : cs.length ≤ 100000) (h0 : gridErr W H cs = 0) :
    Calls Try.prog 4 #[.agg #[.int .i64 W, .int .i64 H, .slice a cs.length cap]] w fun e w' => ∃ svb P, e = .returned (.tuple #[.pointer (some ⟨svb, 0, none⟩), .int .i64 0]) ∧ PSv (sv0 W H cs) svb P w' ∧ (∀ j, P j → w.heap.size ≤ j) ∧ Below w.heap.size w w' := by
  have hC := hide (fun (w' : World) (hb : Below w.heap.size w w') => gcheck_any W H a cap cs w' B (Nat.le_trans hB hb.size) (hE.below hb hB) (by omega))
  have hD := hide (fun (w' : World) (hb : Below w.heap.size w w') => copied_any W H a cap cs w' B (Nat.le_trans hB hb.size) (hE.below hb hB) hl)
  have hF := hide (fun (ga : Option Addr) (gc b0 : Nat) (w1 : World) (ty : TypeId) own hb => PSv.fresh (ga := ga) (gc := gc) (b0 := b0) (w1 := w1) (ty := ty) h0 own hb)
  rw [h0] at hC
  obtain ⟨m, hm⟩ : ∃ m, m = cs.length := ⟨_, rfl⟩
  unfold GridBack at hD
  rw [← hm] at hC hD hF ⊢
  replace hm := hide hm
  clear hE hl h0
  go_enter Try.func4, Try.ntmps4
  go_wp2_with fail
  refine (hC.out _ (by exact bel)).mono ?_
  rintro e w1 ⟨rfl, hb1⟩
  have k0 := cu_below hb1 (p := ⟨w.heap.size, 0, none⟩) (v := .int .i64 W) (by simp [go_sem]) (by simp)
  have k1 := cu_below hb1 (p := ⟨w.heap.size, 1, none⟩) (v := .int .i64 H) (by simp [go_sem]) (by simp)
  have k2 := cu_below hb1 (p := ⟨w.heap.size, 2, none⟩) (v := .slice a m cap) (by simp [go_sem]) (by simp)
  have hb2 := hide (((bel : Below w.heap.size w _)).trans (hb1.mono (by simp)))
  have hz1 : w.heap.size < w1.heap.size := cell_lt k0
  clear hb1 hC
  go_wp2_with fail
  refine (hD.out _ hb2.out).mono ?_
  rintro e w2 ⟨ga, gc, rfl, own, hb3⟩
  have hb4 := hide (hb2.out.trans (hb3.mono hb2.out.size))
  have hz2 := hb3.size
  have hown := hide own
  have hbl := hide (fun j hj => (own.block_lt j hj).1)
  clear hb2 hb3 own hD k0 k1 k2
  go_wp2
  refine bodyPost_ret (v := .tuple #[.pointer (some ⟨w2.heap.size, 0, none⟩), .int .i64 0]) (by simp [results, Try.results4, go_sem]) rfl ?_
  refine ⟨w2.heap.size, _, rfl, hF.out ga gc w1.heap.size w2 65 hown.out hz2, fun j hj => ?_, hb4.out.alloc (by omega) _⟩
  rcases hj with rfl | hj
  · omega
  · have := hbl.out j hj; omega
/-- a search begun: what is its own and what it reads lie apart -/
theorem anew_obj2 {n v t : Nat} {es : List Ed} {h : Nat → Int} {ws : List P2} {w0 w' : World} {e : Ending} (hN : NewAns n t es h ws v w0 e w') : ∃ sb s' A C, e = .returned (.tuple #[.pointer (some ⟨sb, 0, none⟩), .int .i64 0]) ∧ ASettle ws es h n t (aStart h v) s' ∧ AObj n t es h ws s' sb A C w' ∧ (∀ j, A j ∨ C j → w0.heap.size ≤ j) ∧ Below w0.heap.size w0 w' ∧ (∀ j, C j → j < w'.heap.size) ∧ ∀ j, A j → ¬ C j := by
  obtain ⟨sb, gc, gp, gd, gh, ec, hc, wc, ae, ha, aw, O, lo, hi, wS, s', rfl, hAC, hOu, hdis, hst, hA, hin, htl, hBel, l1, l2, l3, l4⟩ := hN
  obtain ⟨sx, h1, h2, h3, a1, q1, c1, f1, al, ll, lc, ls, ar, tt, rc, ros, hX, hr⟩ := hA
  have hkk := @AX.keep AFr.none _ _ _ _ _ _ _ _ _ _ _ _ _ _ _ _ _ _ _ _ _ hX
  have hb := hBel w' hkk
  have hl := @AX.lt AFr.none _ _ _ _ _ _ _ _ _ _ _ _ _ _ _ _ _ _ _ _ _ hX
  have hz := hkk.size
  have hzw : w0.heap.size ≤ wS.heap.size := (hBel wS (Keep.refl _ _)).size
  have hhi : hi ≤ wS.heap.size := by obtain ⟨_, _, _, q, _⟩ := hOu; exact q
  have hhp := (@AX.heap AFr.none _ _ _ _ _ _ _ _ _ _ _ _ _ _ _ _ _ _ _ _ _ hX).own
  have hhs := @AX.hs AFr.none _ _ _ _ _ _ _ _ _ _ _ _ _ _ _ _ _ _ _ _ _ hX
  have hla := @AX.late AFr.none _ _ _ _ _ _ _ _ _ _ _ _ _ _ _ _ _ _ _ _ _ hX
  have hrn := @AX.rnds AFr.none _ _ _ _ _ _ _ _ _ _ _ _ _ _ _ _ _ _ _ _ _ hX
  have hto := @AX.told AFr.none _ _ _ _ _ _ _ _ _ _ _ _ _ _ _ _ _ _ _ _ _ hX
  refine ⟨sb, s', fun j => AOwn sb gc gp gd gh (.slice a1 q1 c1) (.slice al ll lc) (.slice ar tt rc) ros j, fun j => CB es ae ha aw j ∨ (lo ≤ j ∧ j < hi), rfl, hst, ⟨gc, gp, gd, gh, hc, wc, ec, ha, aw, ae, O, lo, hi, wS, hAC, hOu, hdis, hin, htl, ⟨sx, h1, h2, h3, a1, q1, c1, f1, al, ll, lc, ls, ar, tt, rc, ros, hX, fun j hj => hj, hr⟩, fun j hj => .inl hj, fun j j1 j2 => .inr ⟨j1, j2⟩, fun j hj => ?_, fun b o e _ => l4 b o e⟩, fun j hj => ?_, hb, fun j hj => ?_, fun j hj hc => ?_⟩
  · rcases hj with g | g | g | g | g
    · unfold AXb at g; omega
    · exact (hhp.block_lt j g).2
    · exact (hla.block_lt j g).2
    · exact (hrn.block_lt j g).2
    · exact (hto.lt g).2
  · rcases hj with (g | g | g | g | g) | g | g
    · exact l1 j g
    · exact Nat.le_trans hzw (hhs j g)
    · exact Nat.le_trans hzw (hla.block_lt j g).1
    · exact Nat.le_trans hzw (hrn.block_lt j g).1
    · exact Nat.le_trans hzw (hto.lt g).1
    · exact (l2 j g).1
    · omega
  · rcases hj with g | g
    · exact Nat.lt_of_lt_of_le (l2 j g).2 hz
    · omega
  · have hlt : j < wS.heap.size := by
      rcases hc with g | g
      · exact (l2 j g).2
      · omega
    rcases hj with g | g | g | g | g
    · rcases hc with (⟨_, o, e⟩ | ⟨o, e⟩ | ⟨o, e⟩) | ⟨g1, g2⟩
      · exact l4 j o e g
      · exact hAC.hx j o e g
      · exact hAC.wx j o e g
      · exact hdis j g1 g2 g
    · have := hhs j g; omega
    · have := (hla.block_lt j g).1; omega
    · have := (hrn.block_lt j g).1; omega
    · have := (hto.lt g).1; omega
def Srch (es : List Ed) (n f t : Nat) (ws : List P2) (w : World) (e : Ending) (w' : World) : Prop := ∃ sb A C, e = .returned (.tuple #[.pointer (some ⟨sb, 0, none⟩), .int .i64 0]) ∧ AObj n t es hZ ws (sBegin es n f t ws) sb A C w' ∧ (∀ j, A j ∨ C j → w.heap.size ≤ j) ∧ Below w.heap.size w w' ∧ (∀ j, C j → j < w'.heap.size) ∧ ∀ j, A j → ¬ C j
theorem anew_z_ok (n f t el : Nat) (a : Option Addr) (cap : Nat) (es : List Ed) (hel : es.length = el) (ah : Option Addr) (ch : Nat) (aw : Option Addr) (m cw : Nat) (ws : List P2) (hm : ws.length = m) (w : World) (hE : Row encE 3 w w.heap.size a es) (hH : Row encI 1 w w.heap.size ah (LI n hZ)) (hW : Row encP 2 w w.heap.size aw ws) (hl : el ≤ 100000) (hn : n ≤ 64) (h0 : lookErr (n : Int) es [(f : Int), (t : Int)] = 0) (h1 : wsErr ws = 0) :
    Calls Try.prog 23 #[.agg #[.int .i64 (n : Int), .slice a el cap], .int .i64 (f : Int), .int .i64 (t : Int), .slice ah n ch, .slice aw m cw] w (Srch es n f t ws w) := by
  subst hel
  have h := anew_ok n f t a cap es ah ch (List.replicate n 0) aw m cw ws hm w w.heap.size (Nat.le_refl _) hE (by rw [← li_hZ]; exact hH) hW (by omega) (by simp; omega) (by rw [slook_zero]; exact h0) h1
  rw [List.length_replicate, hAt_rep] at h
  refine h.mono ?_
  intro e w' hN
  obtain ⟨sb, s', A, C, g1, g2, g3, g4, g5, g6, g7⟩ := anew_obj2 hN
  rw [sBegin_is g2] at g3
  exact ⟨sb, A, C, g1, g3, g4, g5, g6, g7⟩
theorem anew_z_bad (n el : Nat) (f t : Int) (a : Option Addr) (cap : Nat) (es : List Ed) (hel : es.length = el) (ah : Option Addr) (ch : Nat) (aw : Option Addr) (m cw : Nat) (ws : List P2) (hm : ws.length = m) (w : World) (hE : Row encE 3 w w.heap.size a es) (hH : Row encI 1 w w.heap.size ah (LI n hZ)) (hW : Row encP 2 w w.heap.size aw ws) (hl : el ≤ 100000) (hn : n ≤ 64) (er : Int) (her : er = if lookErr (n : Int) es [f, t] ≠ 0 then lookErr (n : Int) es [f, t] else wsErr ws) (h0 : er ≠ 0) :
    Calls Try.prog 23 #[.agg #[.int .i64 (n : Int), .slice a el cap], .int .i64 f, .int .i64 t, .slice ah n ch, .slice aw m cw] w fun e w' => e = .returned (.tuple #[.pointer none, .int .i64 er]) ∧ Below w.heap.size w w' := by
  subst hel
  have h := anew_bad (n : Int) a cap es f t ah ch (List.replicate n 0) aw m cw ws hm w w.heap.size (Nat.le_refl _) hE (by rw [← li_hZ]; exact hH) hW (by omega) (by simp; omega) er (by rw [slook_zero]; exact her) h0
  rw [List.length_replicate] at h
  exact h
/-- a request as a value -/
def askV (f t : Int) (aw : Option Addr) (m cw : Nat) (rv : RV) (b : Bool) : Value := .agg #[.int .i64 f, .int .i64 t, .slice aw m cw, .int .i64 rv.na, .int .i64 rv.nb, .slice rv.pa rv.pm rv.pc, .int .i64 rv.rc, .int .i64 rv.dn, .bool b]
section
variable {W H : Int} {cs : List Int} {svb : Nat} {w : World}
set_option maxRecDepth 100000 in
set_option maxHeartbeats 4000000 in
/-- whatever is so of New is so of the search -/
theorem psearch_any (hG : Gd W H cs svb w) (h0 : gridErr W H cs = 0) (f t : Int) (aw : Option Addr) (m cw : Nat) (rv : RV) (b : Bool) (n : Nat) (es0 : List Ed) (hn : n = cs.length) (hes : es0 = gridNet W H cs cs.length) (Q : World → Value → World → Prop)
    (hNew : ∀ w1 a cap ah ch, Below w.heap.size w w1 → Row encE 3 w1 w1.heap.size a es0 → Row encI 1 w1 w1.heap.size ah (LI n hZ) → Calls Try.prog 23 #[.agg #[.int .i64 (n : Int), .slice a es0.length cap], .int .i64 f, .int .i64 t, .slice ah n ch, .slice aw m cw] w1 fun e w' => ∃ pv er, e = .returned (.tuple #[.pointer pv, .int .i64 er]) ∧ Below w1.heap.size w1 w' ∧ Q w1 (.tuple #[.pointer pv, .int .i64 er]) w') :
    Calls Try.prog 18 #[.pointer (some ⟨svb, 0, none⟩), askV f t aw m cw rv b] w fun e w' => ∃ w1 v, e = .returned v ∧ Below w.heap.size w w1 ∧ Below w1.heap.size w1 w' ∧ Q w1 v w' := by
  obtain ⟨ga, gc, c0, c1, c2, hr⟩ := hG
  have z0 := cell_lt c0
  simp only at z0
  obtain ⟨b1, b2, b3, b4, hcl, hcs⟩ := gridErr_ok h0
  have hn64 : n ≤ 64 := by
    have : W * H ≤ 8 * 8 := Int.mul_le_mul b2 b4 (by omega) (by omega)
    omega
  have hmk := fun w => run_zeros w n (by omega)
  have hO := hide (fun (w' : World) (hb : Below w.heap.size w w') => netof_ok W H ga gc cs w' w.heap.size hb.size (hr.below hb (Nat.le_refl _)) h0)
  rw [← hes, ← hn] at hO
  rw [← hn] at c2
  obtain ⟨el, hel⟩ : ∃ el, el = es0.length := ⟨_, rfl⟩
  rw [← hel] at hNew
  replace hNew := hide hNew
  replace hel := hide hel
  replace hes := hide hes
  replace hn := hide hn
  clear hr h0 hcs hcl b1 b2 b3 b4
  unfold askV
  go_enter Try.func18, Try.ntmps18
  go_wp2_with fail
  refine (hO.out _ (by exact bel)).mono ?_
  rintro e w1 ⟨v1, rfl, own, hb⟩
  obtain ⟨a1, c1', rfl⟩ := own.shape hel.out.symm
  obtain ⟨bx, hbx⟩ : ∃ bx, bx = w.heap.size := ⟨_, rfl⟩
  have x0 := cu_below hb (p := ⟨bx, 0, none⟩) (v := .int .i64 f) (by rw [hbx]; simp [go_sem]) (by rw [hbx]; simp)
  have x1 := cu_below hb (p := ⟨bx, 1, none⟩) (v := .int .i64 t) (by rw [hbx]; simp [go_sem]) (by rw [hbx]; simp)
  have x2 := cu_below hb (p := ⟨bx, 2, none⟩) (v := .slice aw m cw) (by rw [hbx]; simp [go_sem]) (by rw [hbx]; simp)
  have hb2 := hide (((bel : Below w.heap.size w _)).trans (hb.mono (by simp)))
  have hown := hide own
  have hz1 : bx < w1.heap.size := cell_lt x0
  clear hb own hO
  go_upto_region 2 with fail
  obtain ⟨w2, hw2⟩ : ∃ w2, w2 = w1.alloc (.cells #[.int .i64 (n : Int), .slice a1 el c1'] 41) := ⟨_, rfl⟩
  obtain ⟨by', hby⟩ : ∃ by', by' = w1.heap.size := ⟨_, rfl⟩
  have hb12 : Below w1.heap.size w1 w2 := by rw [hw2]; exact (Below.refl _ _).alloc (Nat.le_refl _) _
  have y0 : w2.cell? ⟨by', 0, none⟩ = some (.int .i64 (n : Int)) := by rw [hw2, hby]; simp [go_sem]
  have y1 : w2.cell? ⟨by', 1, none⟩ = some (.slice a1 el c1') := by rw [hw2, hby]; simp [go_sem]
  have x0 := cu_below hb12 x0 hz1
  have x1 := cu_below hb12 x1 hz1
  have x2 := cu_below hb12 x2 hz1
  obtain ⟨a1', c2', hv1, hrow, _⟩ := hown.out.row lenE
  rw [← hel.out] at hv1
  cases hv1
  have hrow2 := hide ((hrow.below hb12 (Nat.le_refl _)).mono hb12.size)
  have hb3 := hide (hb2.out.trans (hb12.mono hb2.out.size))
  have zx : bx < w2.heap.size := cell_lt x0
  have zy : by' < w2.heap.size := cell_lt y0
  have key := hide (show ∀ w', Below w2.heap.size w2 w' → (Below w2.heap.size w2 w' ∧ w'.cell? ⟨bx, 0, none⟩ = some (.int .i64 f) ∧ w'.cell? ⟨bx, 1, none⟩ = some (.int .i64 t) ∧ w'.cell? ⟨bx, 2, none⟩ = some (.slice aw m cw) ∧ w'.cell? ⟨by', 0, none⟩ = some (.int .i64 (n : Int)) ∧ w'.cell? ⟨by', 1, none⟩ = some (.slice a1 el c1')) from
    fun w' hb => ⟨hb, cu_below hb x0 zx, cu_below hb x1 zx, cu_below hb x2 zx, cu_below hb y0 zy, cu_below hb y1 zy⟩)
  simp only [← hw2]
  simp only [← hby]
  simp only [← hbx]
  replace hw2 := hide hw2
  replace hby := hide hby
  replace hbx := hide hbx
  clear hb12 hrow hown hb2 x0 x1 x2 y0 y1 c0 c1 c2
  go_region_held3 (fun w' => Below w2.heap.size w2 w' ∧ w'.cell? ⟨bx, 0, none⟩ = some (.int .i64 f) ∧ w'.cell? ⟨bx, 1, none⟩ = some (.int .i64 t) ∧ w'.cell? ⟨bx, 2, none⟩ = some (.slice aw m cw) ∧ w'.cell? ⟨by', 0, none⟩ = some (.int .i64 (n : Int)) ∧ w'.cell? ⟨by', 1, none⟩ = some (.slice a1 el c1'))
    (first | exact key.out _ (below_drew _) | exact key.out _ (by assumption) | exact key.out _ (up_alloc_self (below_drew _)) | exact key.out _ (up_alloc_self (And.left (by assumption))) | exact key.out _ (up_alloc_self (by assumption)))
    (first | (go_at_call 23; have hb4 := (‹_ ∧ _› : _ ∧ _).1; refine (hNew.out _ a1 c1' _ n (hb3.out.trans (hb4.mono hb3.out.size)) ((hrow2.out.below hb4 (Nat.le_refl _)).mono hb4.size) (own_row (own_zeros _ _ n (Nat.le_refl _) (by omega)))).mono ?_; rintro e w4 ⟨pv, er, rfl, hb5, hQ⟩; have hb6 := below_step hb4 hb5))
  all_goals
    go_wp2
    refine bodyPost_ret (v := .tuple #[.pointer pv, .int .i64 er]) (by simp [results, Try.results18, go_sem]) rfl ⟨_, _, rfl, hb3.out.trans (hb4.mono hb3.out.size), hb5, hQ⟩
theorem Srch.up {es : List Ed} {n f t : Nat} {ws : List P2} {w w1 : World} {e : Ending} {w' : World} (h : Srch es n f t ws w1 e w') (hb : Below w.heap.size w w1) : Srch es n f t ws w e w' := by
  obtain ⟨sb, A, C, h1, h2, h3, h4, h5⟩ := h
  exact ⟨sb, A, C, h1, h2, fun j hj => Nat.le_trans hb.size (h3 j hj), hb.trans (h4.mono hb.size), h5⟩
theorem psearch_ok (hG : Gd W H cs svb w) (h0 : gridErr W H cs = 0) (f t : Nat) (aw : Option Addr) (m cw : Nat) (rv : RV) (b : Bool) (ws : List P2) (hm : ws.length = m) (hW : Row encP 2 w w.heap.size aw ws) (hlk : lookErr (cs.length : Int) (gridNet W H cs cs.length) [(f : Int), (t : Int)] = 0) (h1 : wsErr ws = 0) (hn : cs.length ≤ 64) :
    Calls Try.prog 18 #[.pointer (some ⟨svb, 0, none⟩), askV (f : Int) (t : Int) aw m cw rv b] w (Srch (gridNet W H cs cs.length) cs.length f t ws w) := by
  have hl := gridNet_len W H cs cs.length
  refine (psearch_any hG h0 (f : Int) (t : Int) aw m cw rv b cs.length _ rfl rfl (fun w1 v w' => Srch (gridNet W H cs cs.length) cs.length f t ws w1 (.returned v) w') (fun w1 a cap ah ch hb hE hH => ?_)).mono ?_
  · refine (anew_z_ok cs.length f t _ a cap _ rfl ah ch aw m cw ws hm w1 hE hH ((hW.below hb (Nat.le_refl _)).mono hb.size) (by omega) hn hlk h1).mono ?_
    rintro e w' ⟨sb, A, C, rfl, g2, g3, g4, g5, g6⟩
    exact ⟨_, _, rfl, g4, sb, A, C, rfl, g2, g3, g4, g5, g6⟩
  · rintro e w' ⟨w1, v, rfl, g1, g2, g3⟩
    exact g3.up g1
theorem psearch_bad (hG : Gd W H cs svb w) (h0 : gridErr W H cs = 0) (f t : Int) (aw : Option Addr) (m cw : Nat) (rv : RV) (b : Bool) (ws : List P2) (hm : ws.length = m) (hW : Row encP 2 w w.heap.size aw ws) (hn : cs.length ≤ 64) (er : Int) (her : er = if lookErr (cs.length : Int) (gridNet W H cs cs.length) [f, t] ≠ 0 then lookErr (cs.length : Int) (gridNet W H cs cs.length) [f, t] else wsErr ws) (hne : er ≠ 0) :
    Calls Try.prog 18 #[.pointer (some ⟨svb, 0, none⟩), askV f t aw m cw rv b] w fun e w' => e = .returned (.tuple #[.pointer none, .int .i64 er]) ∧ Below w.heap.size w w' := by
  have hl := gridNet_len W H cs cs.length
  refine (psearch_any hG h0 f t aw m cw rv b cs.length _ rfl rfl (fun w1 v w' => v = .tuple #[.pointer none, .int .i64 er]) (fun w1 a cap ah ch hb hE hH => ?_)).mono ?_
  · refine (anew_z_bad cs.length _ f t a cap _ rfl ah ch aw m cw ws hm w1 hE hH ((hW.below hb (Nat.le_refl _)).mono hb.size) (by omega) hn er her hne).mono ?_
    rintro e w' ⟨rfl, g4⟩
    exact ⟨_, _, rfl, g4, rfl⟩
  · rintro e w' ⟨w1, v, rfl, g1, g2, rfl⟩
    exact ⟨rfl, g1.trans (g2.mono g1.size)⟩
end
end Go.Proofs.Ytccailcjclbhlaa
