/-
  A part of the proof of ServePlays: AMC
-/
import Derived.Test.YtccailcjclbhlaaGreatServePlaysA10
import Derived.Test.YtccailcjclbhlaaGreatServePlaysA4
/-! Several texts in one: -/
/-! The document's search by rounds: its object, its lists, its maps, its rounds. No condition. -/
namespace Go.Proofs.YtccailcjclbhlaaGreat
open Go.RowKit
set_option linter.unusedSimpArgs false
set_option linter.unusedVariables false
def sv3 {α : Type} (a b c : α) : Nat → α := fun i => if i = 0 then a else if i = 1 then b else c
theorem lt3 {P : Nat → Prop} (h0 : P 0) (h1 : P 1) (h2 : P 2) : ∀ i, i < 3 → P i := fun i hi => by
  rcases (show i = 0 ∨ i = 1 ∨ i = 2 by omega) with rfl | rfl | rfl
  · exact h0
  · exact h1
  · exact h2
/-- the blocks that it writes in place -/
abbrev RXb (rb mb pb : Nat) (j : Nat) : Prop := AXb rb mb pb mb pb j
/-- its own blocks -/
def ROwn (rb mb pb : Nat) (sv : Nat → Value) (rv : Value) (ros : List RV) (j : Nat) : Prop := RXb rb mb pb j ∨ (∃ i, i < 3 ∧ (sv i).ownBlock = some j) ∨ rv.ownBlock = some j ∨ Pathb ros j
/-- rb: the object; mb, pb: its maps; sv, sl: those that wait, were looked from, are late; w1: the world right behind their making -/
structure RXf [AFr] (n rb mb pb nm : Nat) (ev hv wv : Value) (fr tg : Int) (sv : Nat → Value) (sl : Nat → List Nat) (rv : Value) (ros : List RV) (s : AS) (w1 wr : World) : Prop where
  c0 : wr.cell? ⟨rb, 0, none⟩ = some (.int .i64 (n : Int))
  c1 : wr.cell? ⟨rb, 1, none⟩ = some ev
  c2 : wr.cell? ⟨rb, 2, none⟩ = some (.int .i64 fr)
  c3 : wr.cell? ⟨rb, 3, none⟩ = some (.int .i64 tg)
  c4 : wr.cell? ⟨rb, 4, none⟩ = some hv
  c5 : wr.cell? ⟨rb, 5, none⟩ = some wv
  c6 : wr.cell? ⟨rb, 6, none⟩ = some (.map (some mb))
  c7 : wr.cell? ⟨rb, 7, none⟩ = some (.map (some pb))
  cs : ∀ i, i < 3 → wr.cell? ⟨rb, 8 + i, none⟩ = some (sv i)
  c11 : wr.cell? ⟨rb, 11, none⟩ = some (.int .i64 (s.done : Int))
  c12 : wr.cell? ⟨rb, 12, none⟩ = some rv
  fz : ∀ o, wr.frozen? ⟨rb, o, none⟩ = false
  cm : IMap wr mb nm (costM n s.cost)
  pm : IMap wr pb nm (predM n s.pred)
  os : ∀ i, i < 3 → Own encI 1 3 wr w1.heap.size (sv i) (LP (sl i))
  rnds : Own encR 5 60 wr w1.heap.size rv ros
  told : Told wr w1.heap.size ros s.told
  keep : Keep (RXb rb mb pb) w1 wr
  ap : ∀ i j k, i < 3 → j < 3 → i ≠ j → (sv i).ownBlock = some k → (sv j).ownBlock ≠ some k
  apR : ∀ i k, i < 3 → (sv i).ownBlock = some k → rv.ownBlock ≠ some k
  apP : ∀ k, Pathb ros k → rv.ownBlock ≠ some k ∧ ∀ i, i < 3 → (sv i).ownBlock ≠ some k
  lt : rb < w1.heap.size ∧ mb < w1.heap.size ∧ pb < w1.heap.size
  ne : rb ≠ mb ∧ rb ≠ pb ∧ mb ≠ pb
  nf : AF (ROwn rb mb pb sv rv ros) wr
section
variable [AFr]
variable {n rb mb pb nm : Nat} {ev hv wv : Value} {fr tg : Int} {sv : Nat → Value} {sl : Nat → List Nat} {rv : Value} {ros : List RV} {s : AS} {w1 wr w' : World}
theorem RXf.big (h : RXf n rb mb pb nm ev hv wv fr tg sv sl rv ros s w1 wr) : w1.heap.size ≤ wr.heap.size := h.keep.size
theorem RXf.congr (h : RXf n rb mb pb nm ev hv wv fr tg sv sl rv ros s w1 wr) {sv' : Nat → Value} {sl' : Nat → List Nat} (h1 : ∀ i, i < 3 → sv' i = sv i) (h2 : ∀ i, i < 3 → sl' i = sl i) : RXf n rb mb pb nm ev hv wv fr tg sv' sl' rv ros s w1 wr :=
  ⟨h.c0, h.c1, h.c2, h.c3, h.c4, h.c5, h.c6, h.c7, fun i hi => by rw [h1 i hi]; exact h.cs i hi, h.c11, h.c12, h.fz, h.cm, h.pm, fun i hi => by rw [h1 i hi, h2 i hi]; exact h.os i hi, h.rnds, h.told, h.keep,
    fun i j k hi hj hne => by rw [h1 i hi, h1 j hj]; exact h.ap i j k hi hj hne, fun i k hi => by rw [h1 i hi]; exact h.apR i k hi, fun k hk => ⟨(h.apP k hk).1, fun i hi => by rw [h1 i hi]; exact (h.apP k hk).2 i hi⟩, h.lt, h.ne, h.nf.keep (Keep.refl (fun _ => False) wr) (fun j hj => hj.elim) (fun j hj => .inl (by
      rcases hj with g | ⟨i, hi, g⟩ | g
      · exact .inl g
      · exact .inr (.inl ⟨i, hi, (h1 i hi) ▸ g⟩)
      · exact .inr (.inr g)))⟩
theorem RXf.noT (h : RXf n rb mb pb nm ev hv wv fr tg sv sl rv ros s w1 wr) {T : Nat → Prop} (hT : ∀ j, T j → w1.heap.size ≤ j) : ¬ T rb ∧ ¬ T mb ∧ ¬ T pb := by
  have hl := h.lt
  exact ⟨fun e => by have := hT _ e; omega, fun e => by have := hT _ e; omega, fun e => by have := hT _ e; omega⟩
/-- what does not touch the object and what is its own -/
theorem RXf.frame (h : RXf n rb mb pb nm ev hv wv fr tg sv sl rv ros s w1 wr) {T : Nat → Prop} (kp : Keep T wr w') (hT : ∀ j, T j → w1.heap.size ≤ j ∧ (∀ i, i < 3 → (sv i).ownBlock ≠ some j) ∧ rv.ownBlock ≠ some j ∧ ¬ Pathb ros j ∧ ¬ AFr.F j) : RXf n rb mb pb nm ev hv wv fr tg sv sl rv ros s w1 w' := by
  obtain ⟨n1, n2, n3⟩ := h.noT (T := T) (fun j hj => (hT j hj).1)
  exact ⟨kp.cu h.c0 n1, kp.cu h.c1 n1, kp.cu h.c2 n1, kp.cu h.c3 n1, kp.cu h.c4 n1, kp.cu h.c5 n1, kp.cu h.c6 n1, kp.cu h.c7 n1, fun i hi => kp.cu (h.cs i hi) n1, kp.cu h.c11 n1, kp.cu h.c12 n1, fun o => (kp.frozen (p := ⟨rb, o, none⟩) (show rb < _ from cell_lt h.c0) n1).trans (h.fz o),
    h.cm.keep kp n2, h.pm.keep kp n3, fun i hi => kp.own (h.os i hi) (fun j hj hc => (hT j hc).2.1 i hi hj), kp.own h.rnds (fun j hj hc => (hT j hc).2.2.1 hj), h.told.keep kp (fun j hj hc => (hT j hc).2.2.2.1 hj), h.keep.trans2 kp (fun j hj => .inr (hT j hj).1), h.ap, h.apR, h.apP, h.lt, h.ne, h.nf.keep kp (fun j hj => .inr (hT j hj).2.2.2.2) (fun j hj => .inl hj)⟩
theorem RXf.stays (h : RXf n rb mb pb nm ev hv wv fr tg sv sl rv ros s w1 wr) (b : Below wr.heap.size wr w') : RXf n rb mb pb nm ev hv wv fr tg sv sl rv ros s w1 w' :=
  h.frame (T := fun _ => False) (Keep.new b) (fun j hj => hj.elim)
theorem RXf.re (h : RXf n rb mb pb nm ev hv wv fr tg sv sl rv ros s w1 wr) (s' : AS) (h1 : s'.cost = s.cost) (h2 : s'.pred = s.pred) (h4 : s'.done = s.done) (h5 : s'.told = s.told) : RXf n rb mb pb nm ev hv wv fr tg sv sl rv ros s' w1 wr :=
  ⟨h.c0, h.c1, h.c2, h.c3, h.c4, h.c5, h.c6, h.c7, h.cs, h4 ▸ h.c11, h.c12, h.fz, h1 ▸ h.cm, h2 ▸ h.pm, h.os, h.rnds, h5 ▸ h.told, h.keep, h.ap, h.apR, h.apP, h.lt, h.ne, h.nf⟩
/-- the cells of the object, where one other of them was written -/
theorem RXf.setS (h : RXf n rb mb pb nm ev hv wv fr tg sv sl rv ros s w1 wr) (d : Nat) : RXf n rb mb pb nm ev hv wv fr tg sv sl rv ros { s with done := d } w1 (wr.setCell ⟨rb, 11, none⟩ (.int .i64 (d : Int))) := by
  have hn := h.ne
  have hl := h.lt
  have kp := (Keep.refl (fun j => j = rb) wr).setCell (p := ⟨rb, 11, none⟩) (.inl rfl) (.int .i64 (d : Int))
  have hbig : ∀ j, w1.heap.size ≤ j → ¬ j = rb := fun j hj hc => by omega
  exact ⟨cu_set_off h.c0 (by omega), cu_set_off h.c1 (by omega), cu_set_off h.c2 (by omega), cu_set_off h.c3 (by omega), cu_set_off h.c4 (by omega), cu_set_off h.c5 (by omega), cu_set_off h.c6 (by omega), cu_set_off h.c7 (by omega), fun i hi => cu_set_off (h.cs i hi) (by omega), World.cell?_setCell_same _ _ _ h.c11, cu_set_off h.c12 (by omega), fun o => fu_set (h.fz o),
    h.cm.keep kp (by omega), h.pm.keep kp (by omega), fun i hi => kp.own (h.os i hi) (fun j hj => hbig j ((h.os i hi).block_lt j hj).1), kp.own h.rnds (fun j hj => hbig j (h.rnds.block_lt j hj).1), h.told.keep kp (fun j hj => hbig j (h.told.lt hj).1), h.keep.setCell (.inl (.inl rfl)) _, h.ap, h.apR, h.apP, h.lt, h.ne, h.nf.keep kp (fun j hj => .inl (.inl (.inl hj))) (fun j hj => .inl hj)⟩
/-- one of the three lists is another: fresh, or as it was and grown -/
theorem RXf.setI (h : RXf n rb mb pb nm ev hv wv fr tg sv sl rv ros s w1 wr) (i : Nat) (hi : i < 3) {v' : Value} {l' : List Nat} (kp : Keep (fun j => (sv i).ownBlock = some j) wr w') (ho : Own encI 1 3 w' w1.heap.size v' (LP l')) (hb : ∀ j, v'.ownBlock = some j → (sv i).ownBlock = some j ∨ wr.heap.size ≤ j) : RXf n rb mb pb nm ev hv wv fr tg (upz sv i v') (upz sl i l') rv ros s w1 (w'.setCell ⟨rb, 8 + i, none⟩ v') := by
  have hn := h.ne
  have hl := h.lt
  have hlo : ∀ j, (sv i).ownBlock = some j → w1.heap.size ≤ j ∧ j < wr.heap.size := fun j hj => (h.os i hi).block_lt j hj
  have hno : ∀ j, j < w1.heap.size → (sv i).ownBlock ≠ some j := fun j hj e => by have := (hlo j e).1; omega
  have hK : Keep (fun j => (sv i).ownBlock = some j ∨ j = rb) wr (w'.setCell ⟨rb, 8 + i, none⟩ v') := (kp.mono (fun j _ hj => .inl hj)).setCell (p := ⟨rb, 8 + i, none⟩) (.inl (.inr rfl)) v'
  have hbig : ∀ j, w1.heap.size ≤ j → (sv i).ownBlock ≠ some j → ¬ ((sv i).ownBlock = some j ∨ j = rb) := fun j hj h1 hc => by rcases hc with hc | hc; exact h1 hc; omega
  have hsm : ∀ j, j < w1.heap.size → j ≠ rb → ¬ ((sv i).ownBlock = some j ∨ j = rb) := fun j hj h1 hc => by rcases hc with hc | hc; exact hno j hj hc; exact h1 hc
  have hsb : ∀ o x, o ≠ 8 + i → wr.cell? ⟨rb, o, none⟩ = some x → (w'.setCell ⟨rb, 8 + i, none⟩ v').cell? ⟨rb, o, none⟩ = some x := fun o x ho2 hc => cu_set_off (kp.cu hc (hno rb (by omega))) (fun e => ho2 e.symm)
  have hnew : ∀ j, v'.ownBlock = some j → (∀ k, k < 3 → k ≠ i → (sv k).ownBlock ≠ some j) ∧ rv.ownBlock ≠ some j ∧ ¬ Pathb ros j := fun j hj => by
    rcases hb j hj with h1 | h1
    · exact ⟨fun k hk hne => h.ap i k j hi hk (fun e => hne e.symm) h1, h.apR i j hi h1, fun hp => (h.apP j hp).2 i hi h1⟩
    · refine ⟨fun k hk hne e => ?_, fun e => ?_, fun hp => ?_⟩
      · have := ((h.os k hk).block_lt j e).2; omega
      · have := (h.rnds.block_lt j e).2; omega
      · have := (h.told.lt hp).2; omega
  refine ⟨hsb 0 _ (by omega) h.c0, hsb 1 _ (by omega) h.c1, hsb 2 _ (by omega) h.c2, hsb 3 _ (by omega) h.c3, hsb 4 _ (by omega) h.c4, hsb 5 _ (by omega) h.c5, hsb 6 _ (by omega) h.c6, hsb 7 _ (by omega) h.c7, fun k hk => ?_, hsb 11 _ (by omega) h.c11, hsb 12 _ (by omega) h.c12,
    fun o => fu_set ((kp.frozen (p := ⟨rb, o, none⟩) (show rb < _ from cell_lt h.c0) (hno rb (by omega))).trans (h.fz o)),
    h.cm.keep hK (hsm mb (by omega) (by omega)), h.pm.keep hK (hsm pb (by omega) (by omega)), fun k hk => ?_,
    hK.own h.rnds (fun j hj => hbig j (h.rnds.block_lt j hj).1 (fun e => h.apR i j hi e hj)), h.told.keep hK (fun j hj => hbig j (h.told.lt hj).1 ((h.apP j hj).2 i hi)),
    (h.keep.trans2 kp (fun j hj => .inr (hlo j hj).1)).setCell (.inl (.inl rfl)) _, fun a b k ha hb2 hne => ?_, fun k j hk => ?_, fun j hj => ⟨(h.apP j hj).1, fun k hk => ?_⟩, h.lt, h.ne,
    h.nf.keep hK (fun j hj => .inl (by rcases hj with hj | hj; exact .inr (.inl ⟨i, hi, hj⟩); exact .inl (.inl hj))) (fun j hj => by
      rcases hj with g | ⟨k, hk, g⟩ | g
      · exact .inl (.inl g)
      · by_cases hki : k = i
        · subst hki; rw [upz_same] at g; exact (hb j g).imp (fun h2 => .inr (.inl ⟨k, hk, h2⟩)) .inl
        · rw [upz_other _ _ hki] at g; exact .inl (.inr (.inl ⟨k, hk, g⟩))
      · exact .inl (.inr (.inr g)))⟩
  · by_cases hki : k = i
    · subst hki; rw [upz_same]; exact World.cell?_setCell_same _ _ _ (kp.cu (h.cs k hk) (hno rb (by omega)))
    · rw [upz_other _ _ hki]; exact hsb _ _ (by omega) (h.cs k hk)
  · by_cases hki : k = i
    · subst hki; rw [upz_same, upz_same]; exact ho.elsewhere (fun e => by have := (ho.block_lt rb e).1; omega) _
    · rw [upz_other _ _ hki, upz_other _ _ hki]
      exact hK.own (h.os k hk) (fun j hj => hbig j ((h.os k hk).block_lt j hj).1 (fun e => h.ap i k j hi hk (fun e => hki e.symm) e hj))
  · by_cases hai : a = i
    · subst hai
      rw [upz_same, upz_other _ _ (fun e => hne e.symm)]
      exact fun e => (hnew k e).1 b hb2 (fun e => hne e.symm)
    · rw [upz_other _ _ hai]
      by_cases hbi : b = i
      · subst hbi
        rw [upz_same]
        exact fun e e2 => (hnew k e2).1 a ha hne e
      · rw [upz_other _ _ hbi]
        exact h.ap a b k ha hb2 hne
  · by_cases hki : k = i
    · subst hki; rw [upz_same]; exact fun e => (hnew j e).2.1
    · rw [upz_other _ _ hki]; exact h.apR k j hk
  · by_cases hki : k = i
    · subst hki; rw [upz_same]; exact fun e => (hnew j e).2.2 hj
    · rw [upz_other _ _ hki]; exact (h.apP j hj).2 k hk
/-- a round more -/
theorem RXf.setR (h : RXf n rb mb pb nm ev hv wv fr tg sv sl rv ros s w1 wr) {r : RV} {t : RD} (hr : RoundAt wr w1.heap.size r t) (hp : ∀ j, (Value.slice r.pa r.pm r.pc).ownBlock = some j → rv.ownBlock ≠ some j ∧ (∀ i, i < 3 → (sv i).ownBlock ≠ some j) ∧ ¬ AFr.F j) {rv' : Value} (kp : Keep (fun j => rv.ownBlock = some j) wr w') (ho : Own encR 5 60 w' w1.heap.size rv' (ros ++ [r])) (hb : ∀ j, rv'.ownBlock = some j → rv.ownBlock = some j ∨ wr.heap.size ≤ j) : RXf n rb mb pb nm ev hv wv fr tg sv sl rv' (ros ++ [r]) { s with told := s.told ++ [t] } w1 (w'.setCell ⟨rb, 12, none⟩ rv') := by
  have hn := h.ne
  have hl := h.lt
  have hro : ∀ j, rv.ownBlock = some j → w1.heap.size ≤ j ∧ j < wr.heap.size := fun j hj => h.rnds.block_lt j hj
  have hno : ∀ j, j < w1.heap.size → rv.ownBlock ≠ some j := fun j hj e => by have := (hro j e).1; omega
  have hK : Keep (fun j => rv.ownBlock = some j ∨ j = rb) wr (w'.setCell ⟨rb, 12, none⟩ rv') := (kp.mono (fun j _ hj => .inl hj)).setCell (p := ⟨rb, 12, none⟩) (.inl (.inr rfl)) rv'
  have hbig : ∀ j, w1.heap.size ≤ j → rv.ownBlock ≠ some j → ¬ (rv.ownBlock = some j ∨ j = rb) := fun j hj h1 hc => by rcases hc with hc | hc; exact h1 hc; omega
  have hsm : ∀ j, j < w1.heap.size → j ≠ rb → ¬ (rv.ownBlock = some j ∨ j = rb) := fun j hj h1 hc => by rcases hc with hc | hc; exact hno j hj hc; exact h1 hc
  have hsb : ∀ o x, o ≠ 12 → wr.cell? ⟨rb, o, none⟩ = some x → (w'.setCell ⟨rb, 12, none⟩ rv').cell? ⟨rb, o, none⟩ = some x := fun o x ho2 hc => cu_set_off (kp.cu hc (hno rb (by omega))) (fun e => ho2 e.symm)
  have hpl : ∀ j, (Value.slice r.pa r.pm r.pc).ownBlock = some j → w1.heap.size ≤ j ∧ j < wr.heap.size := fun j hj => hr.2.2.2.2.2.block_lt j hj
  have htold : Told wr w1.heap.size (ros ++ [r]) (s.told ++ [t]) := h.told.push hr
  have hnew : ∀ j, rv'.ownBlock = some j → (∀ k, k < 3 → (sv k).ownBlock ≠ some j) ∧ ¬ Pathb (ros ++ [r]) j := fun j hj => by
    rcases hb j hj with h1 | h1
    · refine ⟨fun k hk e => h.apR k j hk e h1, fun hp2 => ?_⟩
      rcases pathb_app.1 hp2 with h2 | h2
      · exact (h.apP j h2).1 h1
      · exact (hp j h2).1 h1
    · refine ⟨fun k hk e => ?_, fun hp2 => ?_⟩
      · have := ((h.os k hk).block_lt j e).2; omega
      · have := (htold.lt hp2).2; omega
  exact ⟨hsb 0 _ (by omega) h.c0, hsb 1 _ (by omega) h.c1, hsb 2 _ (by omega) h.c2, hsb 3 _ (by omega) h.c3, hsb 4 _ (by omega) h.c4, hsb 5 _ (by omega) h.c5, hsb 6 _ (by omega) h.c6, hsb 7 _ (by omega) h.c7, fun k hk => hsb _ _ (by omega) (h.cs k hk), hsb 11 _ (by omega) h.c11, World.cell?_setCell_same _ _ _ (kp.cu h.c12 (hno rb (by omega))),
    fun o => fu_set ((kp.frozen (p := ⟨rb, o, none⟩) (show rb < _ from cell_lt h.c0) (hno rb (by omega))).trans (h.fz o)),
    h.cm.keep hK (hsm mb (by omega) (by omega)), h.pm.keep hK (hsm pb (by omega) (by omega)), fun k hk => hK.own (h.os k hk) (fun j hj => hbig j ((h.os k hk).block_lt j hj).1 (fun e => h.apR k j hk hj e)),
    ho.elsewhere (fun e => by have := (ho.block_lt rb e).1; omega) _,
    htold.keep hK (fun j hj => hbig j (htold.lt hj).1 (by
      rcases pathb_app.1 hj with h2 | h2
      · exact (h.apP j h2).1
      · exact (hp j h2).1)),
    (h.keep.trans2 kp (fun j hj => .inr (hro j hj).1)).setCell (.inl (.inl rfl)) _, h.ap, fun k j hk e e2 => (hnew j e2).1 k hk e,
    fun j hj => ⟨fun e => (hnew j e).2 hj, fun k hk => by
      rcases pathb_app.1 hj with h2 | h2
      · exact (h.apP j h2).2 k hk
      · exact (hp j h2).2.1 k hk⟩, h.lt, h.ne,
    h.nf.keep hK (fun j hj => .inl (by rcases hj with hj | hj; exact .inr (.inr (.inl hj)); exact .inl (.inl hj))) (fun j hj => by
      rcases hj with g | g | g | g
      · exact .inl (.inl g)
      · exact .inl (.inr (.inl g))
      · exact (hb j g).imp (fun h2 => .inr (.inr (.inl h2))) .inl
      · exact (pathb_app.1 g).imp (fun h2 => .inr (.inr (.inr h2))) (fun h2 => .inr (hp j h2).2.2))⟩
/-- the maps are others -/
theorem RXf.setM (h : RXf n rb mb pb nm ev hv wv fr tg sv sl rv ros s w1 wr) {nm' : Nat} (c p : Nat → Int) (kp : Keep (fun j => j = mb ∨ j = pb) wr w') (h1 : IMap w' mb nm' (costM n c)) (h2 : IMap w' pb nm' (predM n p)) : RXf n rb mb pb nm' ev hv wv fr tg sv sl rv ros { s with cost := c, pred := p } w1 w' := by
  have hn := h.ne
  have hl := h.lt
  have hrb : ¬ (rb = mb ∨ rb = pb) := by omega
  have hbig : ∀ j, w1.heap.size ≤ j → ¬ (j = mb ∨ j = pb) := fun j hj hc => by omega
  exact ⟨kp.cu h.c0 hrb, kp.cu h.c1 hrb, kp.cu h.c2 hrb, kp.cu h.c3 hrb, kp.cu h.c4 hrb, kp.cu h.c5 hrb, kp.cu h.c6 hrb, kp.cu h.c7 hrb, fun i hi => kp.cu (h.cs i hi) hrb, kp.cu h.c11 hrb, kp.cu h.c12 hrb, fun o => (kp.frozen (p := ⟨rb, o, none⟩) (show rb < _ from cell_lt h.c0) hrb).trans (h.fz o),
    h1, h2, fun i hi => kp.own (h.os i hi) (fun j hj => hbig j ((h.os i hi).block_lt j hj).1), kp.own h.rnds (fun j hj => hbig j (h.rnds.block_lt j hj).1), h.told.keep kp (fun j hj => hbig j (h.told.lt hj).1), h.keep.trans2 kp (fun j hj => by
      rcases hj with hj | hj
      · exact .inl (.inr (.inl hj))
      · exact .inl (.inr (.inr (.inl hj)))), h.ap, h.apR, h.apP, h.lt, h.ne, h.nf.keep kp (fun j hj => .inl (.inl (by
      rcases hj with hj | hj
      · exact .inr (.inl hj)
      · exact .inr (.inr (.inl hj))))) (fun j hj => .inl hj)⟩
end
end Go.Proofs.YtccailcjclbhlaaGreat

/-! The document's search by rounds: what its key, its Over, its first return. Conditions: the object reads as RXf says, the constants as AC says. -/
namespace Go.Proofs.YtccailcjclbhlaaGreat
open Go.RowKit
set_option linter.unusedSimpArgs false
set_option linter.unusedVariables false
section
variable [AFr]
variable {n rb mb pb nm hc m wc el ec t rc : Nat} {ha aw ae ar : Option Addr} {fr tg : Int} {sv : Nat → Value} {sl : Nat → List Nat} {ros : List RV} {h : Nat → Int} {ws : List P2} {es : List Ed} {s : AS} {w1 w : World}
set_option maxRecDepth 100000 in
set_option maxHeartbeats 4000000 in
theorem rkey_any (u : Nat) (r : P2) (hrt : ws[t]? = some r) (hX : RXf n rb mb pb nm (.slice ae el ec) (.slice ha n hc) (.slice aw m wc) fr tg sv sl (.slice ar t rc) ros s w1 w) (hC : AC n rb mb pb mb pb hc m wc el ec ha aw ae h ws es w1) (hu : u < n) (hF : s.cost u < FAR) (hc0 : 0 ≤ s.cost u) (hc1 : s.cost u ≤ 1000000000) :
    Calls Tryz.prog 53 #[.pointer (some ⟨rb, 0, none⟩), .int .i64 (u : Int)] w fun e w' => e = .returned (.int .i64 (akey r h s u)) ∧ Below w.heap.size w w' := by
  have htl : t < ws.length := (List.getElem?_eq_some_iff.1 hrt).1
  have hr : r = ws[t] := (List.getElem?_eq_some_iff.1 hrt).2.symm
  have ht : t < m := by have := hC.wl; omega
  have hrw : WOk r := by rw [hr]; exact hC.hw _ (List.getElem_mem htl)
  have hrr := row_keep hC.wr hX.keep hC.wx
  obtain ⟨bw, ow, rfl, hbw, r0, r1⟩ := hrr.p2 t htl
  rw [← hr] at r0 r1
  obtain ⟨bh, oh, rfl, hbh, g0⟩ := (row_keep hC.hr hX.keep hC.hx).atI u hu
  have c4 := hX.c4
  have c5 := hX.c5
  have c6 := hX.c6
  have c12 := hX.c12
  have hg := hC.hh u hu
  have hbig := hX.big
  have hm8 := hC.wl.2.2
  have hn64 := hC.hn.2
  have hlk := hide (fun (w' : World) (hb : Below w.heap.size w w') k => ((((hX.stays hb).cm).drewN k).look 86 Tryz.underlying86 (x := (u : Int)) (by unfold Bd; omega)))
  rw [costM_at hu hF] at hlk
  simp only [Option.getD_some] at hlk
  obtain ⟨x, hx⟩ : ∃ x, x = s.cost u := ⟨_, rfl⟩
  obtain ⟨y, hy⟩ : ∃ y, y = h u := ⟨_, rfl⟩
  have hfin := hide (show r.b * x + r.a * y = akey r h s u by rw [hx, hy]; rfl)
  obtain ⟨q1, q2, q3, q4⟩ := akey_b hrw hc0 hc1 hg.1 hg.2
  rw [← hx] at hc0 hc1 hlk q1 q2
  rw [← hy] at g0 hg q3 q4
  have w1' : IntKind.i64.wrap (r.b * x) = r.b * x := IntWalk.i64_in _ (by omega)
  have w2' : IntKind.i64.wrap (r.a * y) = r.a * y := IntWalk.i64_in _ (by omega)
  have w3' : IntKind.i64.wrap (r.b * x + r.a * y) = r.b * x + r.a * y := IntWalk.i64_in _ (by omega)
  obtain ⟨ra, rb2⟩ := r
  simp only at r0 r1 hfin w1' w2' w3'
  have iu : (0 : Int) ≤ (u : Int) ∧ (u : Int) < (n : Int) := by omega
  have itt : (0 : Int) ≤ (t : Int) ∧ (t : Int) < (m : Int) := by omega
  have zs := cell_lt c4
  simp only at zs
  have zw : bw < w.heap.size := by omega
  have zh : bh < w.heap.size := by omega
  replace hr := hide hr
  replace hx := hide hx
  replace hy := hide hy
  have key0 := hide (show ∀ w', Below w.heap.size w w' → (Below w.heap.size w w' ∧ w'.cell? ⟨rb, 5, none⟩ = some (.slice (some ⟨bw, ow, none⟩) m wc) ∧ w'.cell? ⟨rb, 12, none⟩ = some (.slice ar t rc) ∧ w'.cell? ⟨bw, ow + t * 2, none⟩ = some (.int .i64 ra) ∧ w'.cell? ⟨bw, ow + t * 2 + 1, none⟩ = some (.int .i64 rb2)) from fun w' hb =>
    ⟨hb, cu_below hb c5 zs, cu_below hb c12 zs, cu_below hb r0 zw, cu_below hb r1 zw⟩)
  clear hX hC hrr hc0 hc1 hg hrw q1 q2 q3 q4 c5 c12 r0 r1 hrt hF
  go_enter Tryz.func53, Tryz.ntmps53
  go_upto_region 1 with fail
  refine wp_region_end (S := (fun w' => Below w.heap.size w w' ∧ w'.cell? ⟨rb, 5, none⟩ = some (.slice (some ⟨bw, ow, none⟩) m wc) ∧ w'.cell? ⟨rb, 12, none⟩ = some (.slice ar t rc) ∧ w'.cell? ⟨bw, ow + t * 2, none⟩ = some (.int .i64 ra) ∧ w'.cell? ⟨bw, ow + t * 2 + 1, none⟩ = some (.int .i64 rb2))) (t := 12) (by kernel_rfl) ?_ (fun hHeld hInv => ?_)
  · exact key0.out _ (below_drew _)
  replace hInv := hide hInv
  refine planE [0, 1, 2, 3, 4, 5, 6, 7, 8, 9, 10] ?_
  iterate 11
    refine PlanE.take (v := ?_) (List.getElem?_toArray.trans rfl) (by kernel_rfl) (fun _ _ _ h => h) (Or.inl ⟨by rfl, ?_⟩) hInv.out (by assumption) (fun hInv' => ?_)
    rotate_left
    · intro w hSw; (try dsimp only at hSw); go_simp; (try with_reducible rfl)
    replace hInv := hide hInv'; clear hInv'; try simp only [Act.put, List.setIfInBounds_toArray, List.set_cons_zero, List.set_cons_succ]
  refine wpAnyE_one (i := 11) (List.getElem?_toArray.trans rfl) (by kernel_rfl) (fun K hK => ?_) hInv.out
  (go_simp)
  have hHeld := key0.out _ (up_alloc (o := .cells #[.int .i64 0, .int .i64 0] 56) (below_drew _) (Nat.le_refl _))
  refine hK.out _ _ (fun _ => hHeld) (fun hInv' => ?_)
  clear hK K; replace hInv := hide (hInv' (by decide)); clear hInv'; try simp only [Act.put, List.setIfInBounds_toArray, List.set_cons_zero, List.set_cons_succ]
  refine wpAnyE_one (i := 12) (List.getElem?_toArray.trans rfl) (by kernel_rfl) (fun K hK => ?_) hInv.out
  (try dsimp only at hHeld); go_simp
  refine hK.out _ _ (fun h => absurd rfl h) (fun _ => ?_)
  clear hK K hInv; try simp only [Act.put, List.setIfInBounds_toArray, List.set_cons_zero, List.set_cons_succ]
  refine wpAnyE_done (by kernel_rfl) ?_ _
  obtain ⟨w2, hw2⟩ : ∃ w2, w2 = (w.alloc (.cells #[.int .i64 ra, .int .i64 rb2] 56)).drew := ⟨_, rfl⟩
  have hb2 : Below w.heap.size w w2 := by rw [hw2]; exact up_drew (up_alloc (Below.refl _ _) (Nat.le_refl _))
  have m0 : w2.cell? ⟨w.heap.size, 0, none⟩ = some (.int .i64 ra) := by rw [hw2]; simp [go_sem]
  have m1 : w2.cell? ⟨w.heap.size, 1, none⟩ = some (.int .i64 rb2) := by rw [hw2]; simp [go_sem]
  have c4 := cu_below hb2 c4 zs
  have c6 := cu_below hb2 c6 zs
  have g0 := cu_below hb2 g0 zh
  have hlk2 := hlk.out w2 hb2
  have zz : w.heap.size < w2.heap.size := cell_lt m0
  have zs2 : rb < w2.heap.size := by omega
  have zh2 : bh < w2.heap.size := by omega
  simp only [← hw2]
  replace hb2 := hide hb2
  clear hw2 hlk key0 hHeld
  go_wp2
  go_quiet (fail)
  go_wp2
  go_ret
  exact ⟨ret_int hfin.out, up_drewN hb2.out⟩
end
set_option maxHeartbeats 1000000 in
theorem rover_any (rb t rc m wc : Nat) (ar aw : Option Addr) (w : World) (c12 : w.cell? ⟨rb, 12, none⟩ = some (.slice ar t rc)) (c5 : w.cell? ⟨rb, 5, none⟩ = some (.slice aw m wc)) :
    Calls Tryz.prog 38 #[.pointer (some ⟨rb, 0, none⟩)] w fun e w' => e = .returned (.bool ((t : Int) == (m : Int))) ∧ ∃ k, w' = w.drewN k := by
  have z := cell_lt c5
  go_enter Tryz.func38, Tryz.ntmps38
  go_wp2
  go_quiet (fail)
  go_wp2
  go_ret
  exact ⟨rfl, nq, rfl⟩
section
variable [AFr]
variable {n rb mb pb nm hc m wc el ec t rc : Nat} {ha aw ae ar : Option Addr} {fr tg : Int} {sv : Nat → Value} {sl : Nat → List Nat} {ros : List RV} {h : Nat → Int} {ws : List P2} {es : List Ed} {s : AS} {w1 w : World}
set_option maxRecDepth 100000 in
set_option maxHeartbeats 20000000 in
theorem rfirst_anyA (L lc : Nat) (la : Option Addr) (l : List Nat) (r : P2) (hrt : ws[t]? = some r) (hX : RXf n rb mb pb nm (.slice ae el ec) (.slice ha n hc) (.slice aw m wc) fr tg sv sl (.slice ar t rc) ros s w1 w) (hC : AC n rb mb pb mb pb hc m wc el ec ha aw ae h ws es w1) (hLl : L = l.length) (hL : L ≤ 1000) (hrow : Row encI 1 w w.heap.size la (LP l)) (hl : ∀ u ∈ l, u < n ∧ s.cost u < FAR) (hcu : ∀ u, s.cost u < FAR → 0 ≤ s.cost u ∧ s.cost u ≤ 1000000000) :
    Calls Tryz.prog 52 #[.slice la L lc, .func (.func 53) #[.pointer (some ⟨rb, 0, none⟩)] #[], .slice ha n hc] w fun e w' => e = .returned (.int .i64 (firstR (apl r h s) l)) ∧ Below w.heap.size w w' := by
  have hS := hide (fun (w' : World) (hb : Below w.heap.size w w') (u : Nat) (hu : u < n) (hF : s.cost u < FAR) => rkey_any u r hrt (hX.stays hb) hC hu hF (hcu u hF).1 (hcu u hF).2)
  have hhr := hide (row_keep hC.hr hX.keep hC.hx)
  have hbig := hX.big
  have hst := hide (show ∀ (b : Int) (v : Nat), fstep (apl r h s) b v = if b < 0 ∨ plLt (apl r h s v) (apl r h s b.toNat) = true then (v : Int) else b from fun b v => rfl)
  obtain ⟨kF, hkF⟩ : ∃ kF : Nat → Int, kF = akey r h s := ⟨_, rfl⟩
  have hplt2 := hide (show ∀ u v : Nat, plLt (apl r h s u) (apl r h s v) = decide (kF u < kF v ∨ (kF u = kF v ∧ (h u < h v ∨ (h u = h v ∧ (u : Int) < (v : Int))))) from fun u v => by rw [hkF]; rfl)
  rw [← hkF] at hS
  obtain ⟨pl, hpl⟩ : ∃ pl, pl = apl r h s := ⟨_, rfl⟩
  rw [← hpl] at hst hplt2 ⊢
  replace hrow := hide hrow
  replace hl := hide hl
  replace hLl := hide hLl
  replace hpl := hide hpl
  replace hkF := hide hkF
  have hb0 := hide (Below.refl w.heap.size w)
  clear hX hC hcu hrt
  go_enter Tryz.func52, Tryz.ntmps52
  go_wp2
  go_loopw [7, 12] (fun s7 i wr => ∃ (j : Nat) (b : Int), j ≤ L ∧ i = .int .i64 (j : Int) ∧ s7 = .int .i64 b ∧ Hid ((l.take j).foldl (fstep pl) (-1) = b) ∧ Hid (b = -1 ∨ ∃ u : Nat, b = (u : Int) ∧ u < n ∧ s.cost u < FAR) ∧ Hid (Below w.heap.size w wr)) (fun _ i _ => L - (intOf i).toNat)
  case atStart => exact ⟨0, -1, Nat.zero_le _, rfl, rfl, hide rfl, hide (.inl rfl), hb0⟩
  case round =>
    clear hb0
    obtain ⟨j, b, hj, rfl, rfl, hfo, hbb, hwm⟩ := hrel
    have hwsz := hwm.out.size
    have hnext := hide (fun k => (up_drewN (n := k) hwm.out))
    by_cases hlt : j < L
    · have hjl : j < l.length := by have := hLl.out; omega
      have hjm : j < (LP l).length := by rw [lp_len]; exact hjl
      obtain ⟨lb, lo, rfl, hlb0, f1⟩ := hrow.out.int j hjm
      simp only [LP, List.getElem_map] at f1
      have hlb : lb < wr.heap.size := by omega
      obtain ⟨hvn, hvc⟩ := hl.out l[j] (List.getElem_mem hjl)
      have hfs := hide (show (l.take (j + 1)).foldl (fstep pl) (-1) = fstep pl b l[j] by rw [List.take_succ_eq_append_getElem hjl, List.foldl_append, hfo.out]; rfl)
      obtain ⟨v, hv⟩ : ∃ v, v = l[j] := ⟨_, rfl⟩
      rw [← hv] at f1 hvn hvc hfs
      rw [hst.out b v] at hfs
      replace hv := hide hv
      obtain ⟨hb1, ho1, rfl, hhb, y1⟩ := hhr.out.atI v hvn
      replace f1 := cu_below hwm.out f1 hlb0
      replace y1 := cu_below hwm.out y1 (show hb1 < _ by omega)
      have zh : hb1 < wr.heap.size := by omega
      have ij : (0 : Int) ≤ (j : Int) ∧ (j : Int) < (L : Int) := by omega
      have iv : (0 : Int) ≤ (v : Int) ∧ (v : Int) < (n : Int) := by omega
      by_cases hneg : b < 0
      · have hnew := hide (show (l.take (j + 1)).foldl (fstep pl) (-1) = (v : Int) by rw [hfs.out, if_pos (.inl hneg)])
        clear hfs hfo hbb
        go_wp2
        (refine wp_region_quiet_hid (by kernel_rfl) (by kernel_rfl) (fun wq hst hni => ?_); (repeat (refine hst.out _ _ _ _ (fun K hK => ?_); go_simp; first | (refine hK.out _ ?_; clear hK K) | (apply Exists.intro; refine ⟨fun _ => ?_, hK.out _ ?_⟩; (fail); clear hK K))); refine hni.out _ _ ?_; clear hst hni wq; intro wqq hw'; obtain ⟨nq, hw''⟩ := hw'; subst hw'')
        go_wp2
        go_roundw
        case rel => exact ⟨j + 1, (v : Int), by omega, by go_num, rfl, hnew, hide (.inr ⟨v, rfl, hvn, hvc⟩), hide (hnext.out nq)⟩
        case measure => simp [intOf]; omega
      · obtain ⟨u, rfl, hun, huc⟩ : ∃ u : Nat, b = (u : Int) ∧ u < n ∧ s.cost u < FAR := by rcases hbb.out with h1 | h1; omega; exact h1
        obtain ⟨hb2, ho2, he2, hhb2, y2⟩ := hhr.out.atI u hun
        simp only [Option.some.injEq, Addr.mk.injEq] at he2
        obtain ⟨rfl, rfl, -⟩ := he2
        replace y2 := cu_below hwm.out y2 (show hb1 < _ by omega)
        have iu : (0 : Int) ≤ (u : Int) ∧ (u : Int) < (n : Int) := by omega
        have hcond := hplt2.out v u
        have hu0 : ((u : Nat) : Int).toNat = u := by simp
        rw [hu0, hcond] at hfs
        have hnn : ((u : Int) < 0) = False := by simp
        obtain ⟨y1', hy1⟩ : ∃ y, y = h v := ⟨_, rfl⟩
        obtain ⟨y2', hy2⟩ : ∃ y, y = h u := ⟨_, rfl⟩
        rw [← hy1] at y1 hfs
        rw [← hy2] at y2 hfs
        obtain ⟨kv, hkv⟩ : ∃ y, y = kF v := ⟨_, rfl⟩
        obtain ⟨ku, hku⟩ : ∃ y, y = kF u := ⟨_, rfl⟩
        rw [← hkv, ← hku] at hfs
        have hSv := hide (fun (w' : World) (hb : Below wr.heap.size wr w') => hS.out w' (hwm.out.trans (hb.mono hwsz)) v hvn hvc)
        have hSu := hide (fun (w' : World) (hb : Below wr.heap.size wr w') => hS.out w' (hwm.out.trans (hb.mono hwsz)) u hun huc)
        rw [← hkv] at hSv
        rw [← hku] at hSu
        have hyes := hide (fun (hc : kv < ku ∨ (kv = ku ∧ (y1' < y2' ∨ (y1' = y2' ∧ (v : Int) < (u : Int))))) => (show (l.take (j + 1)).foldl (fstep pl) (-1) = (v : Int) by rw [hfs.out, if_pos (.inr (by simpa using hc))]))
        have hno := hide (fun (hc : ¬ (kv < ku ∨ (kv = ku ∧ (y1' < y2' ∨ (y1' = y2' ∧ (v : Int) < (u : Int)))))) => (show (l.take (j + 1)).foldl (fstep pl) (-1) = (u : Int) by rw [hfs.out, if_neg (by intro h1; rcases h1 with h1 | h1; omega; exact hc (by simpa using h1))]))
        have hbu := hide (show (u : Int) = -1 ∨ ∃ z : Nat, (u : Int) = (z : Int) ∧ z < n ∧ s.cost z < FAR from .inr ⟨u, rfl, hun, huc⟩)
        have hbv := hide (show (v : Int) = -1 ∨ ∃ z : Nat, (v : Int) = (z : Int) ∧ z < n ∧ s.cost z < FAR from .inr ⟨v, rfl, hvn, hvc⟩)
        have hout := hide (fun (w' : World) (hb : Below wr.heap.size wr w') => hwm.out.trans (hb.mono hwsz))
        have key0 := hide (show ∀ w', Below wr.heap.size wr w' → (fun w' => Below wr.heap.size wr w' ∧ w'.cell? ⟨hb1, ho1 + v, none⟩ = some (.int .i64 y1') ∧ w'.cell? ⟨hb1, ho1 + u, none⟩ = some (.int .i64 y2')) w' from fun w' hb => ⟨hb, cu_below hb y1 zh, cu_below hb y2 zh⟩)
        replace hy1 := hide hy1
        replace hy2 := hide hy2
        replace hkv := hide hkv
        replace hku := hide hku
        clear hfs hfo hbb hcond hu0 hneg y1 y2
        by_cases h1 : kv < ku
        · have hnew := hide (hyes.out (.inl h1))
          go_wp2
          refine wp_region_held_drew (S := (fun w' => Below wr.heap.size wr w' ∧ w'.cell? ⟨hb1, ho1 + v, none⟩ = some (.int .i64 y1') ∧ w'.cell? ⟨hb1, ho1 + u, none⟩ = some (.int .i64 y2'))) (by kernel_rfl) ?_ (fun hHeld => ?_)
          · exact key0.out _ (below_drew _)
          (try dsimp only at hHeld)
          refine planH [0, 1, 2, 3, 4, 6, 7] ?_
          iterate 7
            refine PlanH.take (v := ?_) (List.getElem?_toArray.trans rfl) (by kernel_rfl) (fun _ _ _ h => h) (Or.inl ⟨by rfl, ?_⟩) hHeld ?_
            rotate_left
            · intro w hSw; (try dsimp only at hSw); go_simp; (try with_reducible rfl)
            try simp only [Act.put, List.setIfInBounds_toArray, List.set_cons_zero, List.set_cons_succ]
          refine wpAnyH_ready (rs := [5]) (by kernel_rfl) (by simp) (AllReadyH.cons (List.getElem?_toArray.trans rfl) (fun K hK => ?_) AllReadyH.nil)
          (go_simp; refine (hSv.out _ hHeld.1).mono ?_; rintro e w4 ⟨rfl, hb4⟩)
          have hHeld := key0.out _ (below_step hHeld.1 hb4)
          refine hK.out _ _ hHeld (fun _ => ?_)
          clear hK K; try simp only [Act.put, List.setIfInBounds_toArray, List.set_cons_zero, List.set_cons_succ]
          refine wpAnyH_ready (rs := [8]) (by kernel_rfl) (by simp) (AllReadyH.cons (List.getElem?_toArray.trans rfl) (fun K hK => ?_) AllReadyH.nil)
          (go_simp; refine (hSu.out _ hHeld.1).mono ?_; rintro e w5 ⟨rfl, hb5⟩)
          have hHeld := key0.out _ (below_step hHeld.1 hb5)
          refine hK.out _ _ hHeld (fun _ => ?_)
          clear hK K; try simp only [Act.put, List.setIfInBounds_toArray, List.set_cons_zero, List.set_cons_succ]
          refine planH [9, 10, 11] ?_
          iterate 3
            refine PlanH.take (v := ?_) (List.getElem?_toArray.trans rfl) (by kernel_rfl) (fun _ _ _ h => h) (Or.inl ⟨by rfl, ?_⟩) hHeld ?_
            rotate_left
            · intro w hSw; (try dsimp only at hSw); go_simp; (try with_reducible rfl)
            try simp only [Act.put, List.setIfInBounds_toArray, List.set_cons_zero, List.set_cons_succ]
          refine planH [12, 13, 15, 16, 14, 17, 18, 19, 20, 21, 22, 23, 24, 25, 26, 27, 28, 29, 30, 31, 32, 33, 34, 35, 36, 37, 38, 39, 40, 41, 42, 43, 44, 45] ?_
          iterate 34
            refine PlanH.take (v := undef) (List.getElem?_toArray.trans rfl) (by kernel_rfl) (fun _ _ _ h => h) (Or.inr ⟨by rfl, rfl⟩) hHeld ?_; try simp only [Act.put, List.setIfInBounds_toArray, List.set_cons_zero, List.set_cons_succ]
          refine planH [46] ?_
          iterate 1
            refine PlanH.take (v := ?_) (List.getElem?_toArray.trans rfl) (by kernel_rfl) (fun _ _ _ h => h) (Or.inl ⟨by rfl, ?_⟩) hHeld ?_
            rotate_left
            · intro w hSw; (try dsimp only at hSw); go_simp; (try with_reducible rfl)
            try simp only [Act.put, List.setIfInBounds_toArray, List.set_cons_zero, List.set_cons_succ]
          refine wpAnyH_done (by kernel_rfl) ?_ _
          have hb9 := hide (hout.out _ hHeld.1)
          clear hHeld
          go_wp2
          go_roundw
          case rel => exact ⟨j + 1, (v : Int), by omega, by go_num, rfl, hnew, hbv, hb9⟩
          case measure => simp [intOf]; omega
        · have q1 : decide (kv < ku) = false := by simpa using h1
          have q1' : (kv < ku) = False := by simpa using h1
          by_cases h2 : kv = ku
          · have q2 : (kv == ku) = true := by simpa using h2
            replace h2 := hide h2
            by_cases h3 : y1' < y2'
            · have hnew := hide (hyes.out (.inr ⟨h2.out, .inl h3⟩))
              go_wp2
              refine wp_region_held_drew (S := (fun w' => Below wr.heap.size wr w' ∧ w'.cell? ⟨hb1, ho1 + v, none⟩ = some (.int .i64 y1') ∧ w'.cell? ⟨hb1, ho1 + u, none⟩ = some (.int .i64 y2'))) (by kernel_rfl) ?_ (fun hHeld => ?_)
              · exact key0.out _ (below_drew _)
              (try dsimp only at hHeld)
              refine planH [0, 1, 2, 3, 4, 6, 7] ?_
              iterate 7
                refine PlanH.take (v := ?_) (List.getElem?_toArray.trans rfl) (by kernel_rfl) (fun _ _ _ h => h) (Or.inl ⟨by rfl, ?_⟩) hHeld ?_
                rotate_left
                · intro w hSw; (try dsimp only at hSw); go_simp; (try with_reducible rfl)
                try simp only [Act.put, List.setIfInBounds_toArray, List.set_cons_zero, List.set_cons_succ]
              refine wpAnyH_ready (rs := [5]) (by kernel_rfl) (by simp) (AllReadyH.cons (List.getElem?_toArray.trans rfl) (fun K hK => ?_) AllReadyH.nil)
              (go_simp; refine (hSv.out _ hHeld.1).mono ?_; rintro e w4 ⟨rfl, hb4⟩)
              have hHeld := key0.out _ (below_step hHeld.1 hb4)
              refine hK.out _ _ hHeld (fun _ => ?_)
              clear hK K; try simp only [Act.put, List.setIfInBounds_toArray, List.set_cons_zero, List.set_cons_succ]
              refine wpAnyH_ready (rs := [8]) (by kernel_rfl) (by simp) (AllReadyH.cons (List.getElem?_toArray.trans rfl) (fun K hK => ?_) AllReadyH.nil)
              (go_simp; refine (hSu.out _ hHeld.1).mono ?_; rintro e w5 ⟨rfl, hb5⟩)
              have hHeld := key0.out _ (below_step hHeld.1 hb5)
              refine hK.out _ _ hHeld (fun _ => ?_)
              clear hK K; try simp only [Act.put, List.setIfInBounds_toArray, List.set_cons_zero, List.set_cons_succ]
              refine planH [9, 10, 11, 12, 13, 15, 16] ?_
              iterate 7
                refine PlanH.take (v := ?_) (List.getElem?_toArray.trans rfl) (by kernel_rfl) (fun _ _ _ h => h) (Or.inl ⟨by rfl, ?_⟩) hHeld ?_
                rotate_left
                · intro w hSw; (try dsimp only at hSw); go_simp; (try with_reducible rfl)
                try simp only [Act.put, List.setIfInBounds_toArray, List.set_cons_zero, List.set_cons_succ]
              refine wpAnyH_ready (rs := [14]) (by kernel_rfl) (by simp) (AllReadyH.cons (List.getElem?_toArray.trans rfl) (fun K hK => ?_) AllReadyH.nil)
              (go_simp; refine (hSv.out _ hHeld.1).mono ?_; rintro e w6 ⟨rfl, hb6⟩)
              have hHeld := key0.out _ (below_step hHeld.1 hb6)
              refine hK.out _ _ hHeld (fun _ => ?_)
              clear hK K; try simp only [Act.put, List.setIfInBounds_toArray, List.set_cons_zero, List.set_cons_succ]
              refine wpAnyH_ready (rs := [17]) (by kernel_rfl) (by simp) (AllReadyH.cons (List.getElem?_toArray.trans rfl) (fun K hK => ?_) AllReadyH.nil)
              (go_simp; refine (hSu.out _ hHeld.1).mono ?_; rintro e w7 ⟨rfl, hb7⟩)
              have hHeld := key0.out _ (below_step hHeld.1 hb7)
              refine hK.out _ _ hHeld (fun _ => ?_)
              clear hK K; try simp only [Act.put, List.setIfInBounds_toArray, List.set_cons_zero, List.set_cons_succ]
              refine planH [18, 19, 20, 21, 22, 23, 24, 25, 26, 27, 28, 29] ?_
              iterate 12
                refine PlanH.take (v := ?_) (List.getElem?_toArray.trans rfl) (by kernel_rfl) (fun _ _ _ h => h) (Or.inl ⟨by rfl, ?_⟩) hHeld ?_
                rotate_left
                · intro w hSw; (try dsimp only at hSw); go_simp; (try with_reducible rfl)
                try simp only [Act.put, List.setIfInBounds_toArray, List.set_cons_zero, List.set_cons_succ]
              refine planH [30, 31, 32, 33, 34, 35, 36, 37, 38, 39, 40, 41, 42, 43] ?_
              iterate 14
                refine PlanH.take (v := undef) (List.getElem?_toArray.trans rfl) (by kernel_rfl) (fun _ _ _ h => h) (Or.inr ⟨by rfl, rfl⟩) hHeld ?_; try simp only [Act.put, List.setIfInBounds_toArray, List.set_cons_zero, List.set_cons_succ]
              refine planH [44, 45, 46] ?_
              iterate 3
                refine PlanH.take (v := ?_) (List.getElem?_toArray.trans rfl) (by kernel_rfl) (fun _ _ _ h => h) (Or.inl ⟨by rfl, ?_⟩) hHeld ?_
                rotate_left
                · intro w hSw; (try dsimp only at hSw); go_simp; (try with_reducible rfl)
                try simp only [Act.put, List.setIfInBounds_toArray, List.set_cons_zero, List.set_cons_succ]
              refine wpAnyH_done (by kernel_rfl) ?_ _
              have hb9 := hide (hout.out _ hHeld.1)
              clear hHeld
              go_wp2
              go_roundw
              case rel => exact ⟨j + 1, (v : Int), by omega, by go_num, rfl, hnew, hbv, hb9⟩
              case measure => simp [intOf]; omega
            · have q3 : decide (y1' < y2') = false := by simpa using h3
              have q3' : (y1' < y2') = False := by simpa using h3
              by_cases h4 : y1' = y2'
              · subst h4
                have q4 : (y1' == y1') = true := by simp
                by_cases h5 : (v : Int) < (u : Int)
                · have hnew := hide (hyes.out (.inr ⟨h2.out, .inr ⟨rfl, h5⟩⟩))
                  go_wp2
                  refine wp_region_held_drew (S := (fun w' => Below wr.heap.size wr w' ∧ w'.cell? ⟨hb1, ho1 + v, none⟩ = some (.int .i64 y1') ∧ w'.cell? ⟨hb1, ho1 + u, none⟩ = some (.int .i64 y1'))) (by kernel_rfl) ?_ (fun hHeld => ?_)
                  · exact key0.out _ (below_drew _)
                  (try dsimp only at hHeld)
                  refine planH [0, 1, 2, 3, 4, 6, 7] ?_
                  iterate 7
                    refine PlanH.take (v := ?_) (List.getElem?_toArray.trans rfl) (by kernel_rfl) (fun _ _ _ h => h) (Or.inl ⟨by rfl, ?_⟩) hHeld ?_
                    rotate_left
                    · intro w hSw; (try dsimp only at hSw); go_simp; (try with_reducible rfl)
                    try simp only [Act.put, List.setIfInBounds_toArray, List.set_cons_zero, List.set_cons_succ]
                  refine wpAnyH_ready (rs := [5]) (by kernel_rfl) (by simp) (AllReadyH.cons (List.getElem?_toArray.trans rfl) (fun K hK => ?_) AllReadyH.nil)
                  (go_simp; refine (hSv.out _ hHeld.1).mono ?_; rintro e w4 ⟨rfl, hb4⟩)
                  have hHeld := key0.out _ (below_step hHeld.1 hb4)
                  refine hK.out _ _ hHeld (fun _ => ?_)
                  clear hK K; try simp only [Act.put, List.setIfInBounds_toArray, List.set_cons_zero, List.set_cons_succ]
                  refine wpAnyH_ready (rs := [8]) (by kernel_rfl) (by simp) (AllReadyH.cons (List.getElem?_toArray.trans rfl) (fun K hK => ?_) AllReadyH.nil)
                  (go_simp; refine (hSu.out _ hHeld.1).mono ?_; rintro e w5 ⟨rfl, hb5⟩)
                  have hHeld := key0.out _ (below_step hHeld.1 hb5)
                  refine hK.out _ _ hHeld (fun _ => ?_)
                  clear hK K; try simp only [Act.put, List.setIfInBounds_toArray, List.set_cons_zero, List.set_cons_succ]
                  refine planH [9, 10, 11, 12, 13, 15, 16] ?_
                  iterate 7
                    refine PlanH.take (v := ?_) (List.getElem?_toArray.trans rfl) (by kernel_rfl) (fun _ _ _ h => h) (Or.inl ⟨by rfl, ?_⟩) hHeld ?_
                    rotate_left
                    · intro w hSw; (try dsimp only at hSw); go_simp; (try with_reducible rfl)
                    try simp only [Act.put, List.setIfInBounds_toArray, List.set_cons_zero, List.set_cons_succ]
                  refine wpAnyH_ready (rs := [14]) (by kernel_rfl) (by simp) (AllReadyH.cons (List.getElem?_toArray.trans rfl) (fun K hK => ?_) AllReadyH.nil)
                  (go_simp; refine (hSv.out _ hHeld.1).mono ?_; rintro e w6 ⟨rfl, hb6⟩)
                  have hHeld := key0.out _ (below_step hHeld.1 hb6)
                  refine hK.out _ _ hHeld (fun _ => ?_)
                  clear hK K; try simp only [Act.put, List.setIfInBounds_toArray, List.set_cons_zero, List.set_cons_succ]
                  refine wpAnyH_ready (rs := [17]) (by kernel_rfl) (by simp) (AllReadyH.cons (List.getElem?_toArray.trans rfl) (fun K hK => ?_) AllReadyH.nil)
                  (go_simp; refine (hSu.out _ hHeld.1).mono ?_; rintro e w7 ⟨rfl, hb7⟩)
                  have hHeld := key0.out _ (below_step hHeld.1 hb7)
                  refine hK.out _ _ hHeld (fun _ => ?_)
                  clear hK K; try simp only [Act.put, List.setIfInBounds_toArray, List.set_cons_zero, List.set_cons_succ]
                  refine planH [18, 19, 20, 21, 22, 23, 24, 25, 26, 27, 28, 29, 30, 31, 32, 33, 34, 35, 36, 37, 38, 39, 40, 41, 42, 43, 44, 45, 46] ?_
                  iterate 29
                    refine PlanH.take (v := ?_) (List.getElem?_toArray.trans rfl) (by kernel_rfl) (fun _ _ _ h => h) (Or.inl ⟨by rfl, ?_⟩) hHeld ?_
                    rotate_left
                    · intro w hSw; (try dsimp only at hSw); go_simp; (try with_reducible rfl)
                    try simp only [Act.put, List.setIfInBounds_toArray, List.set_cons_zero, List.set_cons_succ]
                  refine wpAnyH_done (by kernel_rfl) ?_ _
                  have hb9 := hide (hout.out _ hHeld.1)
                  clear hHeld
                  go_wp2
                  go_roundw
                  case rel => exact ⟨j + 1, (v : Int), by omega, by go_num, rfl, hnew, hbv, hb9⟩
                  case measure => simp [intOf]; omega
                · have q5 : decide ((v : Int) < (u : Int)) = false := by simpa using h5
                  have q5' : ((v : Int) < (u : Int)) = False := by simpa using h5
                  have hnew := hide (hno.out (by have := h2.out; omega))
                  go_wp2
                  refine wp_region_held_drew (S := (fun w' => Below wr.heap.size wr w' ∧ w'.cell? ⟨hb1, ho1 + v, none⟩ = some (.int .i64 y1') ∧ w'.cell? ⟨hb1, ho1 + u, none⟩ = some (.int .i64 y1'))) (by kernel_rfl) ?_ (fun hHeld => ?_)
                  · exact key0.out _ (below_drew _)
                  (try dsimp only at hHeld)
                  refine planH [0, 1, 2, 3, 4, 6, 7] ?_
                  iterate 7
                    refine PlanH.take (v := ?_) (List.getElem?_toArray.trans rfl) (by kernel_rfl) (fun _ _ _ h => h) (Or.inl ⟨by rfl, ?_⟩) hHeld ?_
                    rotate_left
                    · intro w hSw; (try dsimp only at hSw); go_simp; (try with_reducible rfl)
                    try simp only [Act.put, List.setIfInBounds_toArray, List.set_cons_zero, List.set_cons_succ]
                  refine wpAnyH_ready (rs := [5]) (by kernel_rfl) (by simp) (AllReadyH.cons (List.getElem?_toArray.trans rfl) (fun K hK => ?_) AllReadyH.nil)
                  (go_simp; refine (hSv.out _ hHeld.1).mono ?_; rintro e w4 ⟨rfl, hb4⟩)
                  have hHeld := key0.out _ (below_step hHeld.1 hb4)
                  refine hK.out _ _ hHeld (fun _ => ?_)
                  clear hK K; try simp only [Act.put, List.setIfInBounds_toArray, List.set_cons_zero, List.set_cons_succ]
                  refine wpAnyH_ready (rs := [8]) (by kernel_rfl) (by simp) (AllReadyH.cons (List.getElem?_toArray.trans rfl) (fun K hK => ?_) AllReadyH.nil)
                  (go_simp; refine (hSu.out _ hHeld.1).mono ?_; rintro e w5 ⟨rfl, hb5⟩)
                  have hHeld := key0.out _ (below_step hHeld.1 hb5)
                  refine hK.out _ _ hHeld (fun _ => ?_)
                  clear hK K; try simp only [Act.put, List.setIfInBounds_toArray, List.set_cons_zero, List.set_cons_succ]
                  refine planH [9, 10, 11, 12, 13, 15, 16] ?_
                  iterate 7
                    refine PlanH.take (v := ?_) (List.getElem?_toArray.trans rfl) (by kernel_rfl) (fun _ _ _ h => h) (Or.inl ⟨by rfl, ?_⟩) hHeld ?_
                    rotate_left
                    · intro w hSw; (try dsimp only at hSw); go_simp; (try with_reducible rfl)
                    try simp only [Act.put, List.setIfInBounds_toArray, List.set_cons_zero, List.set_cons_succ]
                  refine wpAnyH_ready (rs := [14]) (by kernel_rfl) (by simp) (AllReadyH.cons (List.getElem?_toArray.trans rfl) (fun K hK => ?_) AllReadyH.nil)
                  (go_simp; refine (hSv.out _ hHeld.1).mono ?_; rintro e w6 ⟨rfl, hb6⟩)
                  have hHeld := key0.out _ (below_step hHeld.1 hb6)
                  refine hK.out _ _ hHeld (fun _ => ?_)
                  clear hK K; try simp only [Act.put, List.setIfInBounds_toArray, List.set_cons_zero, List.set_cons_succ]
                  refine wpAnyH_ready (rs := [17]) (by kernel_rfl) (by simp) (AllReadyH.cons (List.getElem?_toArray.trans rfl) (fun K hK => ?_) AllReadyH.nil)
                  (go_simp; refine (hSu.out _ hHeld.1).mono ?_; rintro e w7 ⟨rfl, hb7⟩)
                  have hHeld := key0.out _ (below_step hHeld.1 hb7)
                  refine hK.out _ _ hHeld (fun _ => ?_)
                  clear hK K; try simp only [Act.put, List.setIfInBounds_toArray, List.set_cons_zero, List.set_cons_succ]
                  refine planH [18, 19, 20, 21, 22, 23, 24, 25, 26, 27, 28, 29, 30, 31, 32, 33, 34, 35, 36, 37, 38, 39, 40, 41, 42, 43, 44, 45, 46] ?_
                  iterate 29
                    refine PlanH.take (v := ?_) (List.getElem?_toArray.trans rfl) (by kernel_rfl) (fun _ _ _ h => h) (Or.inl ⟨by rfl, ?_⟩) hHeld ?_
                    rotate_left
                    · intro w hSw; (try dsimp only at hSw); go_simp; (try with_reducible rfl)
                    try simp only [Act.put, List.setIfInBounds_toArray, List.set_cons_zero, List.set_cons_succ]
                  refine wpAnyH_done (by kernel_rfl) ?_ _
                  have hb9 := hide (hout.out _ hHeld.1)
                  clear hHeld
                  go_wp2
                  go_roundw
                  case rel => exact ⟨j + 1, (u : Int), by omega, by go_num, rfl, hnew, hbu, hb9⟩
                  case measure => simp [intOf]; omega
              · have q4 : (y1' == y2') = false := by simpa using h4
                have hnew := hide (hno.out (by have := h2.out; omega))
                replace h4 := hide h4
                go_wp2
                refine wp_region_held_drew (S := (fun w' => Below wr.heap.size wr w' ∧ w'.cell? ⟨hb1, ho1 + v, none⟩ = some (.int .i64 y1') ∧ w'.cell? ⟨hb1, ho1 + u, none⟩ = some (.int .i64 y2'))) (by kernel_rfl) ?_ (fun hHeld => ?_)
                · exact key0.out _ (below_drew _)
                (try dsimp only at hHeld)
                refine planH [0, 1, 2, 3, 4, 6, 7] ?_
                iterate 7
                  refine PlanH.take (v := ?_) (List.getElem?_toArray.trans rfl) (by kernel_rfl) (fun _ _ _ h => h) (Or.inl ⟨by rfl, ?_⟩) hHeld ?_
                  rotate_left
                  · intro w hSw; (try dsimp only at hSw); go_simp; (try with_reducible rfl)
                  try simp only [Act.put, List.setIfInBounds_toArray, List.set_cons_zero, List.set_cons_succ]
                refine wpAnyH_ready (rs := [5]) (by kernel_rfl) (by simp) (AllReadyH.cons (List.getElem?_toArray.trans rfl) (fun K hK => ?_) AllReadyH.nil)
                (go_simp; refine (hSv.out _ hHeld.1).mono ?_; rintro e w4 ⟨rfl, hb4⟩)
                have hHeld := key0.out _ (below_step hHeld.1 hb4)
                refine hK.out _ _ hHeld (fun _ => ?_)
                clear hK K; try simp only [Act.put, List.setIfInBounds_toArray, List.set_cons_zero, List.set_cons_succ]
                refine wpAnyH_ready (rs := [8]) (by kernel_rfl) (by simp) (AllReadyH.cons (List.getElem?_toArray.trans rfl) (fun K hK => ?_) AllReadyH.nil)
                (go_simp; refine (hSu.out _ hHeld.1).mono ?_; rintro e w5 ⟨rfl, hb5⟩)
                have hHeld := key0.out _ (below_step hHeld.1 hb5)
                refine hK.out _ _ hHeld (fun _ => ?_)
                clear hK K; try simp only [Act.put, List.setIfInBounds_toArray, List.set_cons_zero, List.set_cons_succ]
                refine planH [9, 10, 11, 12, 13, 15, 16] ?_
                iterate 7
                  refine PlanH.take (v := ?_) (List.getElem?_toArray.trans rfl) (by kernel_rfl) (fun _ _ _ h => h) (Or.inl ⟨by rfl, ?_⟩) hHeld ?_
                  rotate_left
                  · intro w hSw; (try dsimp only at hSw); go_simp; (try with_reducible rfl)
                  try simp only [Act.put, List.setIfInBounds_toArray, List.set_cons_zero, List.set_cons_succ]
                refine wpAnyH_ready (rs := [14]) (by kernel_rfl) (by simp) (AllReadyH.cons (List.getElem?_toArray.trans rfl) (fun K hK => ?_) AllReadyH.nil)
                (go_simp; refine (hSv.out _ hHeld.1).mono ?_; rintro e w6 ⟨rfl, hb6⟩)
                have hHeld := key0.out _ (below_step hHeld.1 hb6)
                refine hK.out _ _ hHeld (fun _ => ?_)
                clear hK K; try simp only [Act.put, List.setIfInBounds_toArray, List.set_cons_zero, List.set_cons_succ]
                refine wpAnyH_ready (rs := [17]) (by kernel_rfl) (by simp) (AllReadyH.cons (List.getElem?_toArray.trans rfl) (fun K hK => ?_) AllReadyH.nil)
                (go_simp; refine (hSu.out _ hHeld.1).mono ?_; rintro e w7 ⟨rfl, hb7⟩)
                have hHeld := key0.out _ (below_step hHeld.1 hb7)
                refine hK.out _ _ hHeld (fun _ => ?_)
                clear hK K; try simp only [Act.put, List.setIfInBounds_toArray, List.set_cons_zero, List.set_cons_succ]
                refine planH [18, 19, 20, 21, 22, 23, 24, 25, 26, 27, 28, 29, 30, 31, 32, 33, 34, 35, 36, 37, 38, 39] ?_
                iterate 22
                  refine PlanH.take (v := ?_) (List.getElem?_toArray.trans rfl) (by kernel_rfl) (fun _ _ _ h => h) (Or.inl ⟨by rfl, ?_⟩) hHeld ?_
                  rotate_left
                  · intro w hSw; (try dsimp only at hSw); go_simp; (try with_reducible rfl)
                  try simp only [Act.put, List.setIfInBounds_toArray, List.set_cons_zero, List.set_cons_succ]
                refine planH [40, 41, 42] ?_
                iterate 3
                  refine PlanH.take (v := undef) (List.getElem?_toArray.trans rfl) (by kernel_rfl) (fun _ _ _ h => h) (Or.inr ⟨by rfl, rfl⟩) hHeld ?_; try simp only [Act.put, List.setIfInBounds_toArray, List.set_cons_zero, List.set_cons_succ]
                refine planH [43, 44, 45, 46] ?_
                iterate 4
                  refine PlanH.take (v := ?_) (List.getElem?_toArray.trans rfl) (by kernel_rfl) (fun _ _ _ h => h) (Or.inl ⟨by rfl, ?_⟩) hHeld ?_
                  rotate_left
                  · intro w hSw; (try dsimp only at hSw); go_simp; (try with_reducible rfl)
                  try simp only [Act.put, List.setIfInBounds_toArray, List.set_cons_zero, List.set_cons_succ]
                refine wpAnyH_done (by kernel_rfl) ?_ _
                have hb9 := hide (hout.out _ hHeld.1)
                clear hHeld
                go_wp2
                go_roundw
                case rel => exact ⟨j + 1, (u : Int), by omega, by go_num, rfl, hnew, hbu, hb9⟩
                case measure => simp [intOf]; omega
          · have q2 : (kv == ku) = false := by simpa using h2
            have hnew := hide (hno.out (by omega))
            replace h2 := hide h2
            go_wp2
            refine wp_region_held_drew (S := (fun w' => Below wr.heap.size wr w' ∧ w'.cell? ⟨hb1, ho1 + v, none⟩ = some (.int .i64 y1') ∧ w'.cell? ⟨hb1, ho1 + u, none⟩ = some (.int .i64 y2'))) (by kernel_rfl) ?_ (fun hHeld => ?_)
            · exact key0.out _ (below_drew _)
            (try dsimp only at hHeld)
            refine planH [0, 1, 2, 3, 4, 6, 7] ?_
            iterate 7
              refine PlanH.take (v := ?_) (List.getElem?_toArray.trans rfl) (by kernel_rfl) (fun _ _ _ h => h) (Or.inl ⟨by rfl, ?_⟩) hHeld ?_
              rotate_left
              · intro w hSw; (try dsimp only at hSw); go_simp; (try with_reducible rfl)
              try simp only [Act.put, List.setIfInBounds_toArray, List.set_cons_zero, List.set_cons_succ]
            refine wpAnyH_ready (rs := [5]) (by kernel_rfl) (by simp) (AllReadyH.cons (List.getElem?_toArray.trans rfl) (fun K hK => ?_) AllReadyH.nil)
            (go_simp; refine (hSv.out _ hHeld.1).mono ?_; rintro e w4 ⟨rfl, hb4⟩)
            have hHeld := key0.out _ (below_step hHeld.1 hb4)
            refine hK.out _ _ hHeld (fun _ => ?_)
            clear hK K; try simp only [Act.put, List.setIfInBounds_toArray, List.set_cons_zero, List.set_cons_succ]
            refine wpAnyH_ready (rs := [8]) (by kernel_rfl) (by simp) (AllReadyH.cons (List.getElem?_toArray.trans rfl) (fun K hK => ?_) AllReadyH.nil)
            (go_simp; refine (hSu.out _ hHeld.1).mono ?_; rintro e w5 ⟨rfl, hb5⟩)
            have hHeld := key0.out _ (below_step hHeld.1 hb5)
            refine hK.out _ _ hHeld (fun _ => ?_)
            clear hK K; try simp only [Act.put, List.setIfInBounds_toArray, List.set_cons_zero, List.set_cons_succ]
            refine planH [9, 10, 11, 12, 13, 15, 16] ?_
            iterate 7
              refine PlanH.take (v := ?_) (List.getElem?_toArray.trans rfl) (by kernel_rfl) (fun _ _ _ h => h) (Or.inl ⟨by rfl, ?_⟩) hHeld ?_
              rotate_left
              · intro w hSw; (try dsimp only at hSw); go_simp; (try with_reducible rfl)
              try simp only [Act.put, List.setIfInBounds_toArray, List.set_cons_zero, List.set_cons_succ]
            refine wpAnyH_ready (rs := [14]) (by kernel_rfl) (by simp) (AllReadyH.cons (List.getElem?_toArray.trans rfl) (fun K hK => ?_) AllReadyH.nil)
            (go_simp; refine (hSv.out _ hHeld.1).mono ?_; rintro e w6 ⟨rfl, hb6⟩)
            have hHeld := key0.out _ (below_step hHeld.1 hb6)
            refine hK.out _ _ hHeld (fun _ => ?_)
            clear hK K; try simp only [Act.put, List.setIfInBounds_toArray, List.set_cons_zero, List.set_cons_succ]
            refine wpAnyH_ready (rs := [17]) (by kernel_rfl) (by simp) (AllReadyH.cons (List.getElem?_toArray.trans rfl) (fun K hK => ?_) AllReadyH.nil)
            (go_simp; refine (hSu.out _ hHeld.1).mono ?_; rintro e w7 ⟨rfl, hb7⟩)
            have hHeld := key0.out _ (below_step hHeld.1 hb7)
            refine hK.out _ _ hHeld (fun _ => ?_)
            clear hK K; try simp only [Act.put, List.setIfInBounds_toArray, List.set_cons_zero, List.set_cons_succ]
            refine planH [18, 19] ?_
            iterate 2
              refine PlanH.take (v := ?_) (List.getElem?_toArray.trans rfl) (by kernel_rfl) (fun _ _ _ h => h) (Or.inl ⟨by rfl, ?_⟩) hHeld ?_
              rotate_left
              · intro w hSw; (try dsimp only at hSw); go_simp; (try with_reducible rfl)
              try simp only [Act.put, List.setIfInBounds_toArray, List.set_cons_zero, List.set_cons_succ]
            refine planH [20, 21, 22, 23, 24, 25, 26, 27, 28, 29, 30, 31, 32, 33, 34, 35, 36, 37, 38, 39, 40, 41, 42, 43, 44] ?_
            iterate 25
              refine PlanH.take (v := undef) (List.getElem?_toArray.trans rfl) (by kernel_rfl) (fun _ _ _ h => h) (Or.inr ⟨by rfl, rfl⟩) hHeld ?_; try simp only [Act.put, List.setIfInBounds_toArray, List.set_cons_zero, List.set_cons_succ]
            refine planH [45, 46] ?_
            iterate 2
              refine PlanH.take (v := ?_) (List.getElem?_toArray.trans rfl) (by kernel_rfl) (fun _ _ _ h => h) (Or.inl ⟨by rfl, ?_⟩) hHeld ?_
              rotate_left
              · intro w hSw; (try dsimp only at hSw); go_simp; (try with_reducible rfl)
              try simp only [Act.put, List.setIfInBounds_toArray, List.set_cons_zero, List.set_cons_succ]
            refine wpAnyH_done (by kernel_rfl) ?_ _
            have hb9 := hide (hout.out _ hHeld.1)
            clear hHeld
            go_wp2
            go_roundw
            case rel => exact ⟨j + 1, (u : Int), by omega, by go_num, rfl, hnew, hbu, hb9⟩
            case measure => simp [intOf]; omega
    · obtain rfl : L = j := by omega
      have hfin := hide (show firstR pl l = b by unfold firstR; rw [← hfo.out, List.take_of_length_le (by have := hLl.out; omega)])
      go_wp2
      go_ret
      rw [hfin.out]
      exact ⟨rfl, hwm.out⟩
end
end Go.Proofs.YtccailcjclbhlaaGreat

/-! The document's search by rounds: its lists against the plain machine; what settle does. Conditions: the object reads as RXf says, the constants as AC says. -/
namespace Go.Proofs.YtccailcjclbhlaaGreat
open Go.RowKit
set_option linter.unusedSimpArgs false
set_option linter.unusedVariables false
/-- those of a list that another lacks are put behind it, one by one -/
def addL (wl : List Nat) (ll : List Nat) : List Nat := ll.foldl (fun w u => if u ∈ w then w else w ++ [u]) wl
theorem addL_mem : ∀ (ll wl : List Nat) (v : Nat), v ∈ addL wl ll ↔ v ∈ wl ∨ v ∈ ll
  | [], wl, v => by simp [addL]
  | u :: r, wl, v => by
    have ih := addL_mem r (if u ∈ wl then wl else wl ++ [u]) v
    show v ∈ addL (if u ∈ wl then wl else wl ++ [u]) r ↔ _
    rw [ih]
    by_cases hu : u ∈ wl
    · rw [if_pos hu, List.mem_cons]
      constructor
      · rintro (h | h)
        · exact .inl h
        · exact .inr (.inr h)
      · rintro (h | h | h)
        · exact .inl h
        · exact .inl (h ▸ hu)
        · exact .inr h
    · rw [if_neg hu, List.mem_append, List.mem_singleton, List.mem_cons]
      constructor
      · rintro ((h | h) | h)
        · exact .inl h
        · exact .inr (.inl h)
        · exact .inr (.inr h)
      · rintro (h | h | h)
        · exact .inl (.inl h)
        · exact .inl (.inr h)
        · exact .inr h
theorem addL_nodup : ∀ (ll wl : List Nat), wl.Nodup → (addL wl ll).Nodup
  | [], wl, h => h
  | u :: r, wl, h => by
    show (addL (if u ∈ wl then wl else wl ++ [u]) r).Nodup
    refine addL_nodup r _ ?_
    by_cases hu : u ∈ wl
    · rw [if_pos hu]; exact h
    · rw [if_neg hu]
      refine List.nodup_append.2 ⟨h, by simp, fun a ha b hb => ?_⟩
      rw [List.mem_singleton] at hb
      subst hb
      exact fun e => hu (e ▸ ha)
theorem addL_step {ll wl : List Nat} {k : Nat} (hk : k < ll.length) : addL wl (ll.take (k + 1)) = if ll[k] ∈ addL wl (ll.take k) then addL wl (ll.take k) else addL wl (ll.take k) ++ [ll[k]] := by
  unfold addL
  rw [List.take_succ_eq_append_getElem hk, List.foldl_append]
  rfl
/-- its lists, in a state of the plain machine -/
structure AL (n : Nat) (es : List Ed) (s : AS) (wl ol ll : List Nat) : Prop where
  nd : wl.Nodup
  iw : ∀ v, v ∈ wl ↔ v < n ∧ s.wt v = true
  ik : ∀ v, v ∈ ol ↔ s.lk v = true
  od : ol.Nodup
  ia : LaL s ll
  ln : ll.length ≤ eB es s.lk
theorem al_wlen {n : Nat} {es : List Ed} {s : AS} {wl ol ll : List Nat} (h : AL n es s wl ol ll) : wl.length ≤ n := nodup_shortS n wl h.nd (fun v hv => ((h.iw v).1 hv).1)
theorem al_olen {n : Nat} {es : List Ed} {hh : Nat → Int} {s : AS} {wl ol ll : List Nat} (h : AL n es s wl ol ll) (hs : AOk n hh s) : ol.length ≤ n := nodup_shortS n ol h.od (fun v hv => hs.lk v ((h.ik v).1 hv))
theorem al_llen {n : Nat} {es : List Ed} {s : AS} {wl ol ll : List Nat} (h : AL n es s wl ol ll) : ll.length ≤ es.length := Nat.le_trans h.ln (eb_le es s.lk)
theorem al_next {n : Nat} {es : List Ed} {s : AS} {wl ol ll : List Nat} (h : AL n es s wl ol ll) {r : P2} {hh : Nat → Int} (hne : wl ≠ []) : ∃ v : Nat, firstR (apl r hh s) wl = (v : Int) ∧ v ∈ wl ∧ ANext r hh n s v := by
  obtain ⟨v, h1, h2, h3⟩ := firstR_mem (apl r hh s) hne
  exact ⟨v, h1, h2, (h.iw v).1 h2, fun u hu hw => h3 u ((h.iw u).2 ⟨hu, hw⟩)⟩
theorem al_none {n : Nat} {es : List Ed} {s : AS} {ol ll : List Nat} (h : AL n es s [] ol ll) : ∀ v, v < n → s.wt v = false := fun v hv => by
  cases hw : s.wt v with
  | false => rfl
  | true => exact absurd ((h.iw v).2 ⟨hv, hw⟩) (by simp)
theorem al_tell {n : Nat} {es : List Ed} {hh : Nat → Int} {s : AS} {wl ol ll : List Nat} (h : AL n es s wl ol ll) (hs : AOk n hh s) (r : P2) (p : List Int × Int) : AL n es (atell r p s) (addL wl ll) [] [] := by
  refine ⟨addL_nodup ll wl h.nd, fun v => ?_, fun v => by simp [atell], by simp, fun v => by simp [atell], Nat.zero_le _⟩
  rw [addL_mem, h.iw, ← h.ia v]
  show (v < n ∧ s.wt v = true) ∨ s.la v = true ↔ v < n ∧ (s.wt v || s.la v) = true
  rw [Bool.or_eq_true]
  constructor
  · rintro (⟨h1, h2⟩ | h1)
    · exact ⟨h1, .inl h2⟩
    · exact ⟨hs.lk v (hs.la v h1).2, .inr h1⟩
  · rintro ⟨h1, h2 | h2⟩
    · exact .inl ⟨h1, h2⟩
    · exact .inr h2
theorem IMap.lookOk {w : World} {b n : Nat} {f : Int → Option Int} (h : IMap w b n f) (t : TypeId) (ht : Tryz.prog.underlying t = some (.map 3 3)) {x : Int} (hx : Bd x) :
    (Instr.lookup t (.map (some b)) (.int .i64 x) true).run Tryz.prog w = .ok (.tuple #[.int .i64 ((f x).getD 0), .bool (f x).isSome]) w := by
  obtain ⟨D, hown, hm, hf⟩ := h
  obtain ⟨v, ps, hrun, hv⟩ := hown.look_ok int_law ht (zero_int w) (plainElem_int Tryz.underlying3 (by decide)) (key_int hx)
  obtain ⟨c, rfl, hc, hwc⟩ := plainElem_int_inv Tryz.underlying3 hv
  have hc2 := congrArg Prod.fst hc
  simp only at hc2
  rw [(hf x).1] at hc2
  simp only [DataW.lit.injEq, Lit.int.injEq, true_and] at hc2
  rw [hrun, (hf x).2, hc2]
/-- the document's object in a state of the plain machine -/
def RAS [AFr] (n rb mb pb : Nat) (ev hv wv : Value) (fr tg : Int) (es : List Ed) (s : AS) (w1 wr : World) : Prop :=
  ∃ nm a0 k0 c0 a1 k1 c1 a2 k2 c2 sl ar t rc ros, RXf n rb mb pb nm ev hv wv fr tg (sv3 (.slice a0 k0 c0) (.slice a1 k1 c1) (.slice a2 k2 c2)) sl (.slice ar t rc) ros s w1 wr ∧ t = s.told.length ∧ AL n es s (sl 0) (sl 1) (sl 2) ∧ k0 = (sl 0).length ∧ k1 = (sl 1).length ∧ k2 = (sl 2).length ∧ nm ≤ 2 + 1000 * s.done
theorem RXf.set0 [AFr] {n rb mb pb nm : Nat} {ev hv wv : Value} {fr tg : Int} {v0 v1 v2 : Value} {sl : Nat → List Nat} {rv : Value} {ros : List RV} {s : AS} {w1 wr w' : World} (h : RXf n rb mb pb nm ev hv wv fr tg (sv3 v0 v1 v2) sl rv ros s w1 wr) {v' : Value} {l' : List Nat} (kp : Keep (fun j => v0.ownBlock = some j) wr w') (ho : Own encI 1 3 w' w1.heap.size v' (LP l')) (hb : ∀ j, v'.ownBlock = some j → v0.ownBlock = some j ∨ wr.heap.size ≤ j) : RXf n rb mb pb nm ev hv wv fr tg (sv3 v' v1 v2) (sv3 l' (sl 1) (sl 2)) rv ros s w1 (w'.setCell ⟨rb, 8, none⟩ v') :=
  (h.setI 0 (by omega) (v' := v') (l' := l') kp ho hb).congr (lt3 rfl rfl rfl) (lt3 rfl rfl rfl)
theorem RXf.set1 [AFr] {n rb mb pb nm : Nat} {ev hv wv : Value} {fr tg : Int} {v0 v1 v2 : Value} {sl : Nat → List Nat} {rv : Value} {ros : List RV} {s : AS} {w1 wr w' : World} (h : RXf n rb mb pb nm ev hv wv fr tg (sv3 v0 v1 v2) sl rv ros s w1 wr) {v' : Value} {l' : List Nat} (kp : Keep (fun j => v1.ownBlock = some j) wr w') (ho : Own encI 1 3 w' w1.heap.size v' (LP l')) (hb : ∀ j, v'.ownBlock = some j → v1.ownBlock = some j ∨ wr.heap.size ≤ j) : RXf n rb mb pb nm ev hv wv fr tg (sv3 v0 v' v2) (sv3 (sl 0) l' (sl 2)) rv ros s w1 (w'.setCell ⟨rb, 9, none⟩ v') :=
  (h.setI 1 (by omega) (v' := v') (l' := l') kp ho hb).congr (lt3 rfl rfl rfl) (lt3 rfl rfl rfl)
theorem RXf.set2 [AFr] {n rb mb pb nm : Nat} {ev hv wv : Value} {fr tg : Int} {v0 v1 v2 : Value} {sl : Nat → List Nat} {rv : Value} {ros : List RV} {s : AS} {w1 wr w' : World} (h : RXf n rb mb pb nm ev hv wv fr tg (sv3 v0 v1 v2) sl rv ros s w1 wr) {v' : Value} {l' : List Nat} (kp : Keep (fun j => v2.ownBlock = some j) wr w') (ho : Own encI 1 3 w' w1.heap.size v' (LP l')) (hb : ∀ j, v'.ownBlock = some j → v2.ownBlock = some j ∨ wr.heap.size ≤ j) : RXf n rb mb pb nm ev hv wv fr tg (sv3 v0 v1 v') (sv3 (sl 0) (sl 1) l') rv ros s w1 (w'.setCell ⟨rb, 10, none⟩ v') :=
  (h.setI 2 (by omega) (v' := v') (l' := l') kp ho hb).congr (lt3 rfl rfl rfl) (lt3 rfl rfl rfl)
end Go.Proofs.YtccailcjclbhlaaGreat
