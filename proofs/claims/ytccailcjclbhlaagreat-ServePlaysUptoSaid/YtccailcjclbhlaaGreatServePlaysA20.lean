/-
  A part of the proof of ServePlays: SvV SvX
-/
import Derived.Test.YtccailcjclbhlaaGreatServePlaysA18
import Derived.Test.YtccailcjclbhlaaGreatServePlaysA2
import Derived.Test.YtccailcjclbhlaaGreatServePlaysA19
import Derived.Test.YtccailcjclbhlaaGreatServePlaysA6
/-! The document's Frame: what it answers and leaves. No condition. -/
namespace Go.Proofs.YtccailcjclbhlaaGreat
open Go.RowKit
set_option linter.unusedSimpArgs false
set_option linter.unusedVariables false
section
variable {σ : Sv} {rvb : Nat} {P : Nat → Prop} {w wr w' : World} {k : Nat}
theorem RSv.mono {Q : Nat → Prop} (h : RSv σ rvb P w) (hQ : ∀ j, P j → Q j) (hl : ∀ j, Q j → j < w.heap.size) : RSv σ rvb Q w := by
  obtain ⟨hok, hlt, ga, gc, xs, W, N, hX, hin⟩ := h
  exact ⟨hok, hl, ga, gc, xs, W, N, hX, fun i j q => hQ j (hin i j q)⟩
theorem RLeft.before {w1 : World} (hb : Below w.heap.size w w1) (hP : ∀ j, P j → j < w.heap.size) (h : RLeft σ rvb P w1 w') : RLeft σ rvb P w w' := by
  refine ⟨h.1.mono (fun j hj => hj.elim .inl (fun q => .inr ⟨Nat.le_trans hb.size q.1, q.2⟩)) (fun j hj => ?_), (Keep.new hb).trans h.2⟩
  rcases hj with hj | hj
  · exact Nat.lt_of_lt_of_le (hP j hj) (Nat.le_trans hb.size h.2.size)
  · exact hj.2
theorem RLeft.adv (h : RLeft σ rvb P w wr) : RLeft σ.adv rvb P w (wr.setCell ⟨rvb, 39, none⟩ (.int .i64 (((σ.turn + 1) % 6 : Nat) : Int))) := by
  obtain ⟨⟨hok, hlt, ga, gc, xs, W, N, hX, hin⟩, hk⟩ := h
  have hs : grown P w wr rvb := hin 6 rvb (.inl hX.own)
  refine ⟨⟨⟨hok.g, by show (σ.turn + 1) % 6 < 6; omega, hok.q⟩, fun j hj => ?_, ga, gc, xs, W, N, hX.turned ((σ.turn + 1) % 6), fun i j q => ?_⟩, hk.setCell (p := ⟨rvb, 39, none⟩) (hs.elim .inl (fun q => .inr q.1)) _⟩
  · rcases hj with hj | hj
    · simpa using hlt j (.inl hj)
    · simpa using hj.2
  · rcases hin i j q with q | q
    · exact .inl q
    · exact .inr ⟨q.1, by simpa using q.2⟩
/-- request k in use: what a step of its search leaves -/
theorem RLeft.use (h : RLeft σ rvb P w wr) (hk : k < 6) {q : Sq} (hq : σ.sl k = some q) : ∃ rb R C, wr.cell? ⟨rvb, 3 + k * 6 + 4, none⟩ = some (.pointer (some ⟨rb, 0, none⟩)) ∧ RObj σ.cs.length q.t σ.es hZ q.ws q.s rb R C wr ∧ (∀ j, R j → grown P w wr j) ∧ ∀ s' w', RObj σ.cs.length q.t σ.es hZ q.ws s' rb (grown R wr w') C w' → Keep R wr w' → RLeft { σ with sl := upz σ.sl k (some { q with s := s' }) } rvb P w w' := by
  obtain ⟨⟨hok, hlt, ga, gc, xs, W, N, hX, hin⟩, hkp⟩ := h
  obtain ⟨rb, R, C, hQ⟩ := hX.someAt hk hq
  have c4 := (hX.six hk).2.2.2.2.1
  rw [hQ.a4] at c4
  refine ⟨rb, R, C, c4, hQ.obj, fun j e => hin k j (.inl (hQ.rW j e)), fun s' w' hO kp => ?_⟩
  have hns : ¬ R rvb := fun e => absurd (hX.lay.sep 6 k _ hX.own (hQ.rW _ e)) (by omega)
  have hQ2 : RQc σ.es σ.cs.length { q with s := s' } (xs k) rb (grown R wr w') C (grown R wr w') (N k) w' :=
    ⟨hQ.a0, hQ.a1, hQ.a2, hQ.a3, hQ.a4, hO, (row_keep hQ.wr kp (fun b o e e2 => hX.lay.ap k k b (hQ.rW b e2) (hQ.wN b o e))).mono kp.size, hQ.kp.keep kp (fun j e e2 => hX.lay.ap k k j (hQ.rW j e2) e), fun j e => e, hQ.cN, hQ.wN⟩
  have hslot := hX.slot hk kp (fun j e => .inr (hQ.rW j e)) (fun o _ v hv => kp.cu hv hns) (x := xs k) (fun j u hu => kp.cu (hX.cx k hk j u hu) hns) (fun o => (kp.frozen (p := ⟨rvb, o, none⟩) (show rvb < _ from cell_lt hX.c0) hns).trans (hX.fz o)) (some { q with s := s' }) σ.es (W' := grown R wr w') (N' := N k) (fun j e => ?_) (fun j e => .inr (.inl e)) (fun j e e2 => ?_) (.inr ⟨_, rfl, rb, grown R wr w', C, hQ2⟩)
  · rw [upz_self xs k, show upz (fun _ => σ.es) k σ.es = (fun _ => σ.es) from upz_self (fun _ => σ.es) k] at hslot
    refine ⟨⟨⟨hok.g, hok.u, fun i q' hi hq' => ?_⟩, fun j hj => ?_, ga, gc, xs, _, _, hslot, fun i j e => ?_⟩, hkp.trans2 kp (fun j e => ?_)⟩
    · by_cases e : i = k
      · subst e
        rw [show ({ σ with sl := upz σ.sl i (some { q with s := s' }) } : Sv).sl = upz σ.sl i (some { q with s := s' }) from rfl, upz_same] at hq'
        cases hq'
        have h0 := hok.q i q hi hq
        exact ⟨h0.f, h0.t, h0.w, h0.k⟩
      · rw [show ({ σ with sl := upz σ.sl k (some { q with s := s' }) } : Sv).sl = upz σ.sl k (some { q with s := s' }) from rfl, upz_other _ _ e] at hq'
        exact hok.q i q' hi hq'
    · rcases hj with hj | hj
      · exact Nat.lt_of_lt_of_le (hlt j (.inl hj)) kp.size
      · exact hj.2
    · have up : ∀ {j}, grown P w wr j → grown P w w' j := fun h => h.elim .inl (fun h => .inr ⟨h.1, Nat.lt_of_lt_of_le h.2 kp.size⟩)
      by_cases q2 : i = k
      · subst q2
        rw [upz_same, upz_same] at e
        rcases e with (e | e) | e
        · exact up (hin i j (.inl (hQ.rW j e)))
        · exact .inr ⟨by have := hkp.size; omega, e.2⟩
        · exact up (hin i j (.inr e))
      · rw [upz_other _ _ q2, upz_other _ _ q2] at e
        exact up (hin i j e)
    · rcases hin k j (.inl (hQ.rW j e)) with e | e
      · exact .inl e
      · exact .inr e.1
  · rcases e with e | e
    · exact .inl (hQ.rW j e)
    · exact .inr e
  · rcases e with e | e
    · exact hX.lay.ap k k j (hQ.rW j e) e2
    · have := hX.lay.lt k j (.inr e2); omega
/-- a request, as it is seen -/
def OvAt (w : World) (x : AV) (oq : Option Sq) : Prop := (oq = none ∧ x = av0) ∨ ∃ q rb aw ar wc rc, oq = some q ∧ x.is = true ∧ x.p = some ⟨rb, 0, none⟩ ∧ w.cell? ⟨rb, 5, none⟩ = some (.slice aw q.ws.length wc) ∧ w.cell? ⟨rb, 12, none⟩ = some (.slice ar q.s.told.length rc) ∧ q.s.told.length ≤ q.ws.length
def liveB : Option Sq → Bool | none => false | some q => !((q.s.told.length : Int) == (q.ws.length : Int))
theorem OvAt.live {x : AV} {oq : Option Sq} (h : OvAt w x oq) : liveB oq = true ↔ liveQ oq := by
  rcases h with ⟨rfl, -⟩ | ⟨q, rb, aw, ar, wc, rc, rfl, -, -, -, -, h⟩
  · simp [liveB, liveQ]
  · simp only [liveB, liveQ, Bool.not_eq_true', beq_eq_false_iff_ne, ne_eq]
    omega
theorem OvAt.stays {x : AV} {oq : Option Sq} (h : OvAt w x oq) (hb : Below w.heap.size w w') : OvAt w' x oq := by
  rcases h with h | ⟨q, rb, aw, ar, wc, rc, h0, h1, h2, h3, h4, h⟩
  · exact .inl h
  · exact .inr ⟨q, rb, aw, ar, wc, rc, h0, h1, h2, cu_below hb h3 (cell_lt h3), cu_below hb h4 (cell_lt h4), h⟩
theorem RSv.ov (h : RSv σ rvb P w) : ∃ xs : Nat → AV, (∀ i, i < 6 → ∀ j u, (encA (xs i))[j]? = some u → w.cell? ⟨rvb, 3 + i * 6 + j, none⟩ = some u) ∧ ∀ i, i < 6 → OvAt w (xs i) (σ.sl i) := by
  obtain ⟨hok, hlt, ga, gc, xs, W, N, hX, hin⟩ := h
  refine ⟨xs, hX.cx, fun i hi => ?_⟩
  cases hq : σ.sl i with
  | none => exact .inl ⟨rfl, hX.noneAt hi hq⟩
  | some q =>
    obtain ⟨rb, R, C, hQ⟩ := hX.someAt hi hq
    obtain ⟨ar, aw, rc, wc, base, h5, h12, -⟩ := hQ.obj.told
    exact .inr ⟨q, rb, aw, ar, wc, rc, rfl, hQ.a0, hQ.a4, h5, h12, hQ.obj.inv.2.1⟩
theorem RLeft.cells (h : RLeft σ rvb P w wr) : σ.turn < 6 ∧ wr.cell? ⟨rvb, 39, none⟩ = some (.int .i64 (σ.turn : Int)) ∧ wr.frozen? ⟨rvb, 39, none⟩ = false := by
  obtain ⟨⟨hok, hlt, ga, gc, xs, W, N, hX, hin⟩, hkp⟩ := h
  exact ⟨hok.u, hX.c9, hX.fz 39⟩
end
set_option maxHeartbeats 1000000 in
theorem rlive_any (x : AV) (oq : Option Sq) (w : World) (h : OvAt w x oq) :
    Calls Tryz.prog 37 #[.agg #[.bool x.is, .int .i64 x.f, .int .i64 x.t, .slice x.aw x.am x.ac, .pointer x.p, .slice x.ka x.km x.kc]] w fun e w' => e = .returned (.bool (liveB oq)) ∧ Below w.heap.size w w' := by
  rcases h with ⟨rfl, rfl⟩ | ⟨q, rb, aw, ar, wc, rc, rfl, h1, h2, c5, c12, -⟩
  · show Calls Tryz.prog 37 #[.agg #[.bool false, .int .i64 0, .int .i64 0, .slice none 0 0, .pointer none, .slice none 0 0]] w _
    go_enter Tryz.func37, Tryz.ntmps37
    go_wp2
    go_ret
    exact ⟨rfl, bel⟩
  · rw [h1, h2]
    have zb := cell_lt c5
    simp only at zb
    obtain ⟨T, hT⟩ : ∃ T, T = q.s.told.length := ⟨_, rfl⟩
    obtain ⟨m, hm⟩ : ∃ m, m = q.ws.length := ⟨_, rfl⟩
    have hv : liveB (some q) = !((T : Int) == (m : Int)) := by rw [hT, hm]; rfl
    rw [hv]
    rw [← hm] at c5
    rw [← hT] at c12
    have hOv := hide (fun (w' : World) (hb : Below w.heap.size w w') => rover_any rb T rc m wc ar aw w' (cu_below hb c12 zb) (cu_below hb c5 zb))
    clear h1 h2 c5 c12 hv hT hm
    by_cases hTm : T = m
    · have q7 : ((T : Int) == (m : Int)) = true := by simp [hTm]
      clear hTm
      go_enter Tryz.func37, Tryz.ntmps37
      go_wp2_with fail
      refine (hOv.out _ (by exact bel)).mono ?_
      rintro e w1 ⟨rfl, k1, rfl⟩
      go_wp2
      go_ret
      exact ⟨by simp [q7], by exact bel⟩
    · have q7 : ((T : Int) == (m : Int)) = false := by simp; omega
      clear hTm
      go_enter Tryz.func37, Tryz.ntmps37
      go_wp2_with fail
      refine (hOv.out _ (by exact bel)).mono ?_
      rintro e w1 ⟨rfl, k1, rfl⟩
      go_wp2
      go_ret
      exact ⟨by simp [q7], by exact bel⟩
set_option maxRecDepth 100000 in
set_option maxHeartbeats 1000000 in
theorem ridx_any {sl : Nat → Option Sq} {rvb : Nat} {w : World} (xs : Nat → AV) (hc : ∀ i, i < 6 → ∀ j u, (encA (xs i))[j]? = some u → w.cell? ⟨rvb, 3 + i * 6 + j, none⟩ = some u) (ho : ∀ i, i < 6 → OvAt w (xs i) (sl i)) (lv : Bool) (hlv : lv = true ↔ ∃ k, k < 6 ∧ liveB (sl k) = true) :
    Calls Tryz.prog 51 #[.slice (some ⟨rvb, 3, none⟩) 6 6, .func (.func 37) #[] #[]] w fun e w' => ∃ z : Int, e = .returned (.int .i64 z) ∧ decide (0 ≤ z) = lv ∧ Below w.heap.size w w' := by
  replace hc := hide hc
  replace ho := hide ho
  replace hlv := hide hlv
  go_enter Tryz.func51, Tryz.ntmps51
  go_wp2
  go_loopw [5, 8] (fun _ i wr => ∃ k : Nat, k ≤ 6 ∧ i = .int .i64 k ∧ Hid (∀ j, j < k → liveB (sl j) = false) ∧ Hid (Below w.heap.size w wr)) (fun _ i _ => 6 - (intOf i).toNat)
  case atStart => exact ⟨0, Nat.zero_le _, rfl, hide (fun j hj => absurd hj (Nat.not_lt_zero _)), hide (Below.refl _ _)⟩
  case round =>
    obtain ⟨k, hk2, rfl, hrest, hb'⟩ := hrel
    have hz := hb'.out.size
    by_cases hlt : k < 6
    · have s0 := hc.out k hlt 0 _ rfl
      have s1 := hc.out k hlt 1 _ rfl
      have s2 := hc.out k hlt 2 _ rfl
      have s3 := hc.out k hlt 3 _ rfl
      have s4 := hc.out k hlt 4 _ rfl
      have s5 := hc.out k hlt 5 _ rfl
      have z0 : rvb < w.heap.size := cell_lt s0
      have zr : rvb < wr.heap.size := by omega
      replace s0 : wr.cell? ⟨rvb, 3 + k * 6, none⟩ = some (.bool (xs k).is) := cu_below hb'.out s0 z0
      replace s1 := cu_below hb'.out s1 z0
      replace s2 := cu_below hb'.out s2 z0
      replace s3 := cu_below hb'.out s3 z0
      replace s4 := cu_below hb'.out s4 z0
      replace s5 := cu_below hb'.out s5 z0
      have hT := hide (fun (w' : World) (hb : Below wr.heap.size wr w') => rlive_any (xs k) (sl k) w' (((ho.out k hlt).stays hb'.out).stays hb))
      have ik : (0 : Int) ≤ (k : Int) ∧ (k : Int) < 6 := by omega
      generalize xs k = x at s0 s1 s2 s3 s4 s5 hT
      cases hlk : liveB (sl k) with
      | true =>
        rw [hlk] at hT
        have hfin := hide (show decide (0 ≤ (k : Int)) = lv by rw [hlv.out.2 ⟨k, hlt, hlk⟩]; simp)
        replace hlk := hide hlk
        go_wp2_with fail
        refine (hT.out _ (by first | exact Below.refl _ _ | exact below_drew _)).mono ?_
        rintro e w1 ⟨rfl, hb1⟩
        have hbb1 := hide (hb'.out.trans (hb1.mono hz))
        go_wp2
        go_ret
        exact ⟨(k : Int), rfl, hfin.out, hbb1.out⟩
      | false =>
        rw [hlk] at hT
        have hnx := hide (show ∀ j, j < k + 1 → liveB (sl j) = false from fun j hj => by
          by_cases e : j = k
          · rw [e]; exact hlk
          · exact hrest.out j (by omega))
        replace hlk := hide hlk
        go_wp2_with fail
        refine (hT.out _ (by first | exact Below.refl _ _ | exact below_drew _)).mono ?_
        rintro e w1 ⟨rfl, hb1⟩
        have hbb1 := hide (hb'.out.trans (hb1.mono hz))
        go_wp2
        go_roundw
        case rel => exact ⟨k + 1, by omega, by go_num, hnx, hbb1⟩
        case measure => simp [intOf]; omega
    · obtain rfl : k = 6 := by omega
      have hfin := hide (show decide (0 ≤ (-1 : Int)) = lv by
        cases lv with
        | false => rfl
        | true => obtain ⟨j, h1, h2⟩ := hlv.out.1 rfl; rw [hrest.out j h1] at h2; cases h2)
      go_wp2
      go_ret
      exact ⟨-1, rfl, hfin.out, hb'.out⟩
theorem rcont_any {sl : Nat → Option Sq} {rvb : Nat} {w : World} (xs : Nat → AV) (hc : ∀ i, i < 6 → ∀ j u, (encA (xs i))[j]? = some u → w.cell? ⟨rvb, 3 + i * 6 + j, none⟩ = some u) (ho : ∀ i, i < 6 → OvAt w (xs i) (sl i)) (lv : Bool) (hlv : lv = true ↔ ∃ k, k < 6 ∧ liveB (sl k) = true) :
    Calls Tryz.prog 36 #[.slice (some ⟨rvb, 3, none⟩) 6 6, .func (.func 37) #[] #[]] w fun e w' => e = .returned (.bool lv) ∧ Below w.heap.size w w' := by
  have hI := hide (ridx_any xs hc ho lv hlv)
  clear hc ho hlv
  go_enter Tryz.func36, Tryz.ntmps36
  go_wp2_with fail
  refine hI.out.mono ?_
  rintro e w1 ⟨z, rfl, hA, hb1⟩
  replace hA := hide hA
  go_wp2
  go_ret
  exact ⟨ret_bool hA.out, hb1⟩
theorem rleft_any {σ : Sv} {rvb : Nat} {P : Nat → Prop} {w : World} (hP : RSv σ rvb P w) (bx : Nat) (cb : w.cell? ⟨bx, 0, none⟩ = some (.pointer (some ⟨rvb, 0, none⟩))) (lv : Bool) (hlv : lv = true ↔ σ.live) :
    Calls Tryz.prog 35 #[.pointer (some ⟨bx, 0, none⟩)] w fun e w' => e = .returned (.bool lv) ∧ Below w.heap.size w w' := by
  obtain ⟨xs, hc, ho⟩ := hP.ov
  have hl2 : lv = true ↔ ∃ k, k < 6 ∧ liveB (σ.sl k) = true := by
    rw [hlv]
    exact ⟨fun ⟨k, h1, h2⟩ => ⟨k, h1, (ho k h1).live.2 h2⟩, fun ⟨k, h1, h2⟩ => ⟨k, h1, (ho k h1).live.1 h2⟩⟩
  have hC := hide (fun (w' : World) (hb : Below w.heap.size w w') => rcont_any (sl := σ.sl) (rvb := rvb) (w := w') xs (fun i hi j u hu => cu_below hb (hc i hi j u hu) (cell_lt (hc i hi j u hu))) (fun i hi => (ho i hi).stays hb) lv hl2)
  have c0 := hc 0 (by omega) 0 _ rfl
  have z0 := cell_lt c0
  simp only at z0
  have zb := cell_lt cb
  simp only at zb
  clear hP hc ho hl2 hlv
  go_enter Tryz.func35, Tryz.ntmps35
  go_wp2_with fail
  refine (hC.out _ (by first | exact Below.refl _ _ | exact below_drew _)).mono ?_
  rintro e w1 ⟨rfl, hb1⟩
  go_wp2
  go_ret
  exact ⟨rfl, hb1⟩
set_option maxRecDepth 100000 in
set_option maxHeartbeats 1000000 in
theorem rframe_bad (rvb : Nat) (b : Int) (w : World) (h : frameErr b ≠ 0) :
    Calls Tryz.prog 19 #[.pointer (some ⟨rvb, 0, none⟩), .int .i64 b] w fun e w' => e = .returned (.tuple #[.int .i64 0, .int .i64 1]) ∧ Below w.heap.size w w' := by
  have hb : b < 0 ∨ b > 10000 := Classical.byContradiction fun hc => h (by unfold frameErr; rw [if_neg hc])
  by_cases q1 : b < 0
  · have q2 : (b < 0) = True := by simp [q1]
    clear h hb q1
    go_enter Tryz.func19, Tryz.ntmps19
    go_wp2
    refine bodyPost_ret (v := .tuple #[.int .i64 0, .int .i64 1]) (by simp [results, Tryz.results19, go_sem]) rfl ⟨rfl, bel⟩
  · have q2 : (b < 0) = False := by simp [q1]
    have q3 : (10000 < b) = True := by simp; omega
    clear h hb q1
    go_enter Tryz.func19, Tryz.ntmps19
    go_wp2
    refine bodyPost_ret (v := .tuple #[.int .i64 0, .int .i64 1]) (by simp [results, Tryz.results19, go_sem]) rfl ⟨rfl, bel⟩
set_option maxRecDepth 100000 in
set_option maxHeartbeats 8000000 in
theorem rframe_ok {σ : Sv} {rvb : Nat} {P : Nat → Prop} {w : World} (hP : RSv σ rvb P w) (B : Nat) (hB : B ≤ 10000) :
    Calls Tryz.prog 19 #[.pointer (some ⟨rvb, 0, none⟩), .int .i64 (B : Int)] w fun e w' => ∃ (k : Nat) (σ' : Sv), e = .returned (.tuple #[.int .i64 (k : Int), .int .i64 0]) ∧ Fr σ B σ' k ∧ RLeft σ' rvb P w w' := by
  have hlt := hide hP.2.1
  obtain ⟨bx, hbx⟩ : ∃ bx, bx = w.heap.size := ⟨_, rfl⟩
  obtain ⟨wx, hwx⟩ : ∃ wx, wx = w.alloc (.cells #[.pointer (some ⟨rvb, 0, none⟩)] 32) := ⟨_, rfl⟩
  have hbw : Below w.heap.size w wx := by rw [hwx]; exact (Below.refl _ _).alloc (Nat.le_refl _) _
  have cb0 : wx.cell? ⟨bx, 0, none⟩ = some (.pointer (some ⟨rvb, 0, none⟩)) := by rw [hwx, hbx]; simp [go_sem]
  have hPx := hP.stays hbw
  have h0 := hide (RLeft.same hPx (Below.refl _ _))
  have zx := cell_lt cb0
  simp only at zx
  have hnb := hide (show ∀ wr j, grown P wx wr j → j ≠ bx from fun wr j hj e => by
    rcases hj with hj | hj
    · have := hlt.out j hj; omega
    · omega)
  have hrb := hide (show rvb < w.heap.size from by obtain ⟨_, _, ga, gc, xs, W, N, hX, _⟩ := hP; exact cell_lt hX.c0)
  have hrne : rvb ≠ bx := by have := hrb.out; omega
  have hu := hide hP.1.u
  have hBef := hide (fun (σ' : Sv) (w' : World) (h : RLeft σ' rvb P wx w') => h.before hbw hlt.out)
  have q2 : ((B : Int) < 0) = False := by simp
  have q3 : (10000 < (B : Int)) = False := by simp; omega
  clear hP hPx hbw
  go_enter Tryz.func19, Tryz.ntmps19
  go_wp2_with fail
  simp only [← hwx, ← hbx]
  replace hwx := hide hwx
  replace hbx := hide hbx
  go_loopg [7] (7 * B + 6) (fun gk i7 wr => ∃ (n b i : Nat) (σ0 σ1 : Sv), i7 = .int .i64 (n : Int) ∧ n + b = B ∧ i ≤ 6 ∧ gk = 7 * b + (6 - i) ∧ Hid (RLeft σ1 rvb P wx wr) ∧ Hid (Idle σ0 i b σ1) ∧ Hid (wr.cell? ⟨bx, 0, none⟩ = some (.pointer (some ⟨rvb, 0, none⟩))) ∧ Hid (∀ σ' k, Fr σ1 b σ' k → Fr σ B σ' (n + k)))
  case atStart => exact ⟨0, B, 0, σ, σ, rfl, by omega, by omega, by omega, h0, hide (Idle.zero hu.out B), hide cb0, hide (fun σ' k h => by rw [Nat.zero_add]; exact h)⟩
  case round =>
    obtain ⟨n, b, i, σ0, σ1, rfl, hnb2, hi6, hgk, hL, hI, hcb, hF⟩ := hrel
    by_cases hb : b = 0
    · have q4 : ((n : Int) < (B : Int)) = False := by simp; omega
      have hfin := hide (show Fr σ B σ1 n from by
        subst hb
        exact hF.out _ 0 (Fr.stop σ1))
      clear hnb2 hb hgk
      go_wp2
      refine bodyPost_ret (v := .tuple #[.int .i64 (n : Int), .int .i64 0]) (by simp [results, Tryz.results19, go_sem]) rfl ⟨n, σ1, rfl, hfin.out, hBef.out _ _ hL.out⟩
    · have q4 : ((n : Int) < (B : Int)) = True := by simp; omega
      by_cases hlv : σ1.live
      · have hLv := hide (fun (w' : World) (hb : Below wr.heap.size wr w') => rleft_any (hL.out.stays hb).1 bx (cu_below hb hcb.out (cell_lt hcb.out)) true ⟨fun _ => hlv, fun _ => rfl⟩)
        have hi : i < 6 := by
          refine Nat.lt_of_le_of_ne hi6 (fun e => ?_)
          subst e
          obtain ⟨e1, e2⟩ := hI.out.six
          rw [e1] at hlv
          exact e2 hlv
        replace hlv := hide hlv
        go_wp2_with fail
        refine (hLv.out _ (by first | exact Below.refl _ _ | exact below_drew _)).mono ?_
        rintro e w2 ⟨rfl, hb2⟩
        have hL2 := hide (hL.out.stays hb2)
        have cb2 := cu_below hb2 hcb.out (cell_lt hcb.out)
        obtain ⟨hk, c9, f9⟩ := hL2.out.cells
        obtain ⟨xs, hxs, hov⟩ := hL2.out.1.ov
        obtain ⟨k, hkk⟩ : ∃ k, k = σ1.turn := ⟨_, rfl⟩
        rw [← hkk] at hk c9
        have s0 : w2.cell? ⟨rvb, 3 + k * 6, none⟩ = some (.bool (xs k).is) := hxs k hk 0 _ rfl
        have s1 := hxs k hk 1 _ rfl
        have s2 := hxs k hk 2 _ rfl
        have s3 := hxs k hk 3 _ rfl
        have s4 := hxs k hk 4 _ rfl
        have s5 := hxs k hk 5 _ rfl
        have hov := hide (hov k hk)
        have zs : rvb < w2.heap.size := cell_lt c9
        have zbx : bx < w2.heap.size := cell_lt cb2
        have hw1 : IntKind.i64.wrap ((k : Int) + 1) = (k : Int) + 1 := IntWalk.i64_in _ (by omega)
        have hw2 : ((k : Int) + 1).tmod 6 = ((k : Int) + 1) % 6 := Int.tmod_eq_emod_of_nonneg (by omega)
        have hcast : (((k + 1) % 6 : Nat) : Int) = ((k : Int) + 1) % 6 := by omega
        have i1 : (0 : Int) ≤ (k : Int) ∧ (k : Int) < 6 := by omega
        have hL3 := hide (fun (wy : World) (h : RLeft σ1 rvb P wx wy) => show RLeft σ1.adv rvb P wx (wy.setCell ⟨rvb, 39, none⟩ (.int .i64 (((k : Int) + 1) % 6))) from by rw [← hcast, hkk]; exact h.adv)
        generalize hx : xs k = x at s0 s1 s2 s3 s4 s5 hov
        clear hx
        replace hcast := hide hcast
        replace hkk := hide hkk
        clear hxs hLv hL hcb
        have key0 := hide (show ∀ w', Below w2.heap.size w2 w' → (fun w' => Below w2.heap.size w2 w' ∧ w'.cell? ⟨bx, 0, none⟩ = some (.pointer (some ⟨rvb, 0, none⟩)) ∧ w'.cell? ⟨rvb, 39, none⟩ = some (.int .i64 (k : Int)) ∧ w'.cell? ⟨rvb, 3 + k * 6, none⟩ = some (.bool x.is) ∧ w'.cell? ⟨rvb, 3 + k * 6 + 1, none⟩ = some (.int .i64 x.f) ∧ w'.cell? ⟨rvb, 3 + k * 6 + 2, none⟩ = some (.int .i64 x.t) ∧ w'.cell? ⟨rvb, 3 + k * 6 + 3, none⟩ = some (.slice x.aw x.am x.ac) ∧ w'.cell? ⟨rvb, 3 + k * 6 + 4, none⟩ = some (.pointer x.p) ∧ w'.cell? ⟨rvb, 3 + k * 6 + 5, none⟩ = some (.slice x.ka x.km x.kc)) w' from fun w' hb => ⟨hb, cu_below hb cb2 zbx, cu_below hb c9 zs, cu_below hb s0 zs, cu_below hb s1 zs, cu_below hb s2 zs, cu_below hb s3 zs, cu_below hb s4 zs, cu_below hb s5 zs⟩)
        go_wp2_with fail
        refine wp_region_end (S := (fun w' => Below w2.heap.size w2 w' ∧ w'.cell? ⟨bx, 0, none⟩ = some (.pointer (some ⟨rvb, 0, none⟩)) ∧ w'.cell? ⟨rvb, 39, none⟩ = some (.int .i64 (k : Int)) ∧ w'.cell? ⟨rvb, 3 + k * 6, none⟩ = some (.bool x.is) ∧ w'.cell? ⟨rvb, 3 + k * 6 + 1, none⟩ = some (.int .i64 x.f) ∧ w'.cell? ⟨rvb, 3 + k * 6 + 2, none⟩ = some (.int .i64 x.t) ∧ w'.cell? ⟨rvb, 3 + k * 6 + 3, none⟩ = some (.slice x.aw x.am x.ac) ∧ w'.cell? ⟨rvb, 3 + k * 6 + 4, none⟩ = some (.pointer x.p) ∧ w'.cell? ⟨rvb, 3 + k * 6 + 5, none⟩ = some (.slice x.ka x.km x.kc))) (t := 10) (by kernel_rfl) ?_ (fun hHeld hInv => ?_)
        · exact key0.out _ (below_drew _)
        replace hInv := hide hInv
        refine planE [0, 1, 2, 3, 4, 5, 6, 7, 8] ?_
        iterate 9
          refine PlanE.take (v := ?_) (List.getElem?_toArray.trans rfl) (by kernel_rfl) (fun _ _ _ h => h) (Or.inl ⟨by rfl, ?_⟩) hInv.out (by assumption) (fun hInv' => ?_)
          rotate_left
          · intro w hSw; (try dsimp only at hSw); go_simp; (try with_reducible rfl)
          replace hInv := hide hInv'; clear hInv'; try simp only [Act.put, List.setIfInBounds_toArray, List.set_cons_zero, List.set_cons_succ]
        refine wpAnyE_one (i := 9) (List.getElem?_toArray.trans rfl) (by kernel_rfl) (fun K hK => ?_) hInv.out
        (go_simp)
        have hHeld := key0.out _ (up_alloc (o := .cells #[.bool false, .int .i64 0, .int .i64 0, .slice none 0 0, .pointer none, .slice none 0 0] 46) (below_drew w2) (Nat.le_refl _))
        refine hK.out _ _ (fun _ => hHeld) (fun hInv' => ?_)
        clear hK K; replace hInv := hide (hInv' (by decide)); clear hInv'; try simp only [Act.put, List.setIfInBounds_toArray, List.set_cons_zero, List.set_cons_succ]
        refine wpAnyE_one (i := 10) (List.getElem?_toArray.trans rfl) (by kernel_rfl) (fun K hK => ?_) hInv.out
        (try dsimp only at hHeld); go_simp
        refine hK.out _ _ (fun h => absurd rfl h) (fun _ => ?_)
        clear hK K hInv; try simp only [Act.put, List.setIfInBounds_toArray, List.set_cons_zero, List.set_cons_succ]
        refine wpAnyE_done (by kernel_rfl) ?_ _
        obtain ⟨b3, hb3⟩ : ∃ b3, b3 = w2.heap.size := ⟨_, rfl⟩
        obtain ⟨w3, hw3⟩ : ∃ w3, w3 = (w2.alloc (.cells #[.bool x.is, .int .i64 x.f, .int .i64 x.t, .slice x.aw x.am x.ac, .pointer x.p, .slice x.ka x.km x.kc] 46)).drew := ⟨_, rfl⟩
        have hb23 : Below w2.heap.size w2 w3 := by rw [hw3]; exact ((Below.refl _ _).alloc (Nat.le_refl _) _).drew
        have g0 : w3.cell? ⟨b3, 0, none⟩ = some (.bool x.is) := by rw [hw3, hb3]; simp [go_sem]
        have g4 : w3.cell? ⟨b3, 4, none⟩ = some (.pointer x.p) := by rw [hw3, hb3]; simp [go_sem]
        simp only [← hw3, ← hb3]
        have cb3 := cu_below hb23 cb2 zbx
        have c93 := cu_below hb23 c9 zs
        have f93 := fu_below hb23 f9 zs
        have s43 := cu_below hb23 s4 zs
        have zs3 : rvb < w3.heap.size := cell_lt c93
        have zb3 : b3 < w3.heap.size := cell_lt g0
        have zbx3 : bx < w3.heap.size := cell_lt cb3
        have hrb3 : rvb ≠ b3 := by omega
        have hL4 := hide ((hL3.out w3 (hL2.out.stays hb23)).stays (below_drew _))
        have hov3 := hide (hov.out.stays hb23)
        replace hw3 := hide hw3
        replace hb3 := hide hb3
        clear key0 hHeld hL2 hL3 s0 s1 s2 s3 s4 s5 cb2 c9 f9 zs zbx hb23 hov hb2
        have key1 := hide (show ∀ w', Below w3.heap.size w3 w' → (fun w' => Below w3.heap.size w3 w' ∧ w'.cell? ⟨bx, 0, none⟩ = some (.pointer (some ⟨rvb, 0, none⟩)) ∧ w'.cell? ⟨rvb, 39, none⟩ = some (.int .i64 (k : Int)) ∧ w'.frozen? ⟨rvb, 39, none⟩ = false) w' from fun w' hb => ⟨hb, cu_below hb cb3 zbx3, cu_below hb c93 zs3, fu_below hb f93 zs3⟩)
        go_wp2_with fail
        refine wp_region_end (S := (fun w' => Below w3.heap.size w3 w' ∧ w'.cell? ⟨bx, 0, none⟩ = some (.pointer (some ⟨rvb, 0, none⟩)) ∧ w'.cell? ⟨rvb, 39, none⟩ = some (.int .i64 (k : Int)) ∧ w'.frozen? ⟨rvb, 39, none⟩ = false)) (t := 9) (by kernel_rfl) ?_ (fun hHeld hInv => ?_)
        · exact key1.out _ (below_drew _)
        replace hInv := hide hInv
        refine planE [0, 1, 2, 3, 4, 5, 6, 7, 8] ?_
        iterate 9
          refine PlanE.take (v := ?_) (List.getElem?_toArray.trans rfl) (by kernel_rfl) (fun _ _ _ h => h) (Or.inl ⟨by rfl, ?_⟩) hInv.out (by assumption) (fun hInv' => ?_)
          rotate_left
          · intro w hSw; (try dsimp only at hSw); go_simp; (try with_reducible rfl)
          replace hInv := hide hInv'; clear hInv'; try simp only [Act.put, List.setIfInBounds_toArray, List.set_cons_zero, List.set_cons_succ]
        refine wpAnyE_one (i := 9) (List.getElem?_toArray.trans rfl) (by kernel_rfl) (fun K hK => ?_) hInv.out
        (try dsimp only at hHeld); go_simp
        refine hK.out _ _ (fun h => absurd rfl h) (fun _ => ?_)
        clear hK K hInv; try simp only [Act.put, List.setIfInBounds_toArray, List.set_cons_zero, List.set_cons_succ]
        refine wpAnyE_done (by kernel_rfl) ?_ _
        obtain ⟨w4, hw4⟩ : ∃ w4, w4 = (w3.setCell ⟨rvb, 39, none⟩ (.int .i64 (((k : Int) + 1) % 6))).drew := ⟨_, rfl⟩
        have hL5 := hide (show RLeft σ1.adv rvb P wx w4 from by rw [hw4]; exact hL4.out)
        have y0 : w4.cell? ⟨b3, 0, none⟩ = some (.bool x.is) := by rw [hw4]; exact cu_drew (cu_set g0 hrb3)
        have y4 : w4.cell? ⟨b3, 4, none⟩ = some (.pointer x.p) := by rw [hw4]; exact cu_drew (cu_set g4 hrb3)
        have cb4 : w4.cell? ⟨bx, 0, none⟩ = some (.pointer (some ⟨rvb, 0, none⟩)) := by rw [hw4]; exact cu_drew (cu_set cb3 hrne)
        have s44 := hide (show w4.cell? ⟨rvb, 3 + k * 6 + 4, none⟩ = some (.pointer x.p) from by rw [hw4]; exact cu_drew (cu_set_off s43 (by omega)))
        have zb4 : b3 < w4.heap.size := cell_lt y0
        have cb4 := hide cb4
        clear g0 g4 cb3 c93 f93 s43 zs3 zb3 zbx3 hL4 hHeld key1
        simp only [← hw4]
        replace hw4 := hide hw4
        rcases hov3.out with ⟨hq, hx⟩ | ⟨q, rb, aw0, ar0, wc0, rc0, hq, h1, h2, -, -, -⟩
        · subst hx
          replace y0 : w4.cell? ⟨b3, 0, none⟩ = some (.bool false) := y0
          have hn : ¬ liveQ (σ1.sl σ1.turn) := by rw [← hkk.out, hq]; exact fun h => h
          have hI2 := hide (hI.out.next hi (by omega) hn)
          have hF2 := hide (fun (σ' : Sv) (k' : Nat) (h : Fr σ1.adv b σ' k') => hF.out σ' k' (Fr.idle σ1 b σ' k' hlv.out (by omega) hn h))
          replace hq := hide hq
          clear hn hI hF hov3 y4 s44
          go_wp2_with fail
          go_roundg (gk - 1)
          case measure => omega
          case rel => exact ⟨n, b, i + 1, σ0, σ1.adv, rfl, by omega, by omega, by omega, by first | exact hL5 | exact hide (hL5.out.stays (below_drew _)), hI2, by first | exact cb4 | exact hide (cu_drew cb4.out), hF2⟩
        · have hqa : σ1.adv.sl k = some q := hq
          rw [h1] at y0
          rw [h2] at y4
          have s45 := s44.out
          rw [h2] at s45
          obtain ⟨rb1, R1, C1, r4, hO1, hRg1, -⟩ := hL5.out.use hk hqa
          obtain rfl : rb = rb1 := by rw [r4] at s45; simpa using s45.symm
          obtain ⟨hinv, htl, h8, h1m, hn64⟩ := hO1.inv
          obtain ⟨ar, aw, rc, wc, base, t5, t12, -⟩ := hO1.told
          obtain ⟨T, hT⟩ : ∃ T, T = q.s.told.length := ⟨_, rfl⟩
          obtain ⟨m, hm⟩ : ∃ m, m = q.ws.length := ⟨_, rfl⟩
          rw [← hm] at t5
          rw [← hT] at t12
          have hOv := hide (rover_any rb T rc m wc ar aw w4 t12 t5)
          have s45 := hide s45
          clear hO1 hRg1 r4 t5 t12 h1 h2 hov3 s44
          go_wp2_with fail
          refine hOv.out.mono ?_
          rintro e w5 ⟨rfl, k2, rfl⟩
          have z4 := cu_drewN (n := k2) y4
          have hL6 := hide (hL5.out.stays (below_drewN (Below.refl _ _) k2))
          have cb5 := hide (cu_drewN (n := k2) cb4.out)
          have s46 := hide (cu_drewN (n := k2) s45.out)
          have zb5 : b3 < (w4.drewN k2).heap.size := cell_lt z4
          clear y0 y4 hL5 cb4 s45 hOv zb4
          obtain ⟨w5, hw5⟩ : ∃ w5, w5 = w4.drewN k2 := ⟨_, rfl⟩
          rw [← hw5] at z4 hL6 cb5 s46 zb5
          simp only [← hw5]
          replace hw5 := hide hw5
          by_cases hTm : T = m
          · have q7 : ((T : Int) == (m : Int)) = true := by simp [hTm]
            have hn : ¬ liveQ (σ1.sl σ1.turn) := by rw [← hkk.out, hq]; unfold liveQ; omega
            have hI2 := hide (hI.out.next hi (by omega) hn)
            have hF2 := hide (fun (σ' : Sv) (k' : Nat) (h : Fr σ1.adv b σ' k') => hF.out σ' k' (Fr.idle σ1 b σ' k' hlv.out (by omega) hn h))
            replace hq := hide hq
            replace hqa := hide hqa
            replace hT := hide hT
            replace hm := hide hm
            clear hn hI hF hTm s46
            go_wp2_with fail
            go_roundg (gk - 1)
            case measure => omega
            case rel => exact ⟨n, b, i + 1, σ0, σ1.adv, rfl, by omega, by omega, by omega, by first | exact hL6 | exact hide (hL6.out.stays (below_drew _)), hI2, by first | exact cb5 | exact hide (cu_drew cb5.out), hF2⟩
          · have q7 : ((T : Int) == (m : Int)) = false := by simp; omega
            have hlive : q.s.told.length < q.ws.length := by omega
            have hlq : liveQ (σ1.sl σ1.turn) := by rw [← hkk.out, hq]; exact hlive
            have hF4 := hide (show ∀ σ' k', Fr σ1.step.adv (b - 1) σ' k' → Fr σ B σ' (n + 1 + k') from fun σ' k' h => by
              have h1 : Fr σ1 (b - 1 + 1) σ' (k' + 1) := Fr.step σ1 (b - 1) σ' k' hlq (by rw [← hkk.out]; exact hk) h
              rw [show b - 1 + 1 = b by omega] at h1
              have h2 := hF.out σ' (k' + 1) h1
              rwa [Nat.add_assoc, Nat.add_comm 1 k'])
            have hst := hide (show ∀ s', s' = sNext σ1.es σ1.cs.length q.t q.ws q.s → { σ1.adv with sl := upz σ1.adv.sl k (some { q with s := s' }) } = σ1.step.adv from fun s' e => by
              subst e
              unfold Sv.step
              rw [← hkk.out, hq]
              unfold Sv.adv
              rw [← hkk.out]
              rfl)
            obtain ⟨rb2, R2, C2, r4, hO2, hRg2, hStep⟩ := hL6.out.use hk hqa
            have s47 := s46.out
            obtain rfl : rb = rb2 := by rw [r4] at s47; simpa using s47.symm
            have htg : q.t < σ1.adv.cs.length := (hL6.out.1.1.q k q hk hqa).t
            have hSt := hide (robj_step htg hlive hO2)
            have hnR := hide (show ¬ R2 bx from fun h => hnb.out w5 bx (hRg2 bx h) rfl)
            have hStep := hide hStep
            have hw3 : IntKind.i64.wrap ((n : Int) + 1) = ((n + 1 : Nat) : Int) := by rw [IntWalk.i64_in _ (by omega)]; omega
            replace hq := hide hq
            replace hqa := hide hqa
            replace hT := hide hT
            replace hm := hide hm
            replace hlive := hide hlive
            clear hI hF hTm s46 s47 hO2 hRg2 r4 hlq
            go_wp2_with fail
            refine hSt.out.mono ?_
            rintro e w6 ⟨rfl, s', hAst, hO6, hkR⟩
            have hPL := hStep.out s' w6 hO6 hkR
            rw [hst.out s' (sNext_is hAst)] at hPL
            have hPL := hide hPL
            have cb6 := hide (hkR.cu cb5.out hnR.out)
            clear hStep hO6 hkR hAst hL6 hSt
            go_wp2_with fail
            go_roundg (7 * (b - 1) + 6)
            case measure => omega
            case rel => exact ⟨n + 1, b - 1, 0, σ1.step.adv, σ1.step.adv, by go_num, by omega, by omega, by omega, hPL, hide (Idle.zero hPL.out.cells.1 _), cb6, hF4⟩
      · have hLv := hide (fun (w' : World) (hb : Below wr.heap.size wr w') => rleft_any (hL.out.stays hb).1 bx (cu_below hb hcb.out (cell_lt hcb.out)) false ⟨fun h => Bool.noConfusion h, fun h => absurd h hlv⟩)
        have hfin := hide (show Fr σ B σ1 n from hF.out _ 0 (Fr.over σ1 b hlv))
        replace hlv := hide hlv
        clear hnb2 hb hgk
        go_wp2_with fail
        refine (hLv.out _ (by first | exact Below.refl _ _ | exact below_drew _)).mono ?_
        rintro e w2 ⟨rfl, hb2⟩
        have hL2 := hide (hBef.out _ _ (hL.out.stays hb2))
        go_wp2
        refine bodyPost_ret (v := .tuple #[.int .i64 (n : Int), .int .i64 0]) (by simp [results, Tryz.results19, go_sem]) rfl ⟨n, σ1, rfl, hfin.out, hL2.out⟩
end Go.Proofs.YtccailcjclbhlaaGreat
/-! What a service's calls answer, all together: Edit, Frame; SameAnswer, SameGrid, at. No condition but on lengths. -/
namespace Go.Proofs.YtccailcjclbhlaaGreat
open Go.RowKit
set_option linter.unusedSimpArgs false
set_option linter.unusedVariables false
section
variable {σ : Sv} {svb rvb : Nat} {P : Nat → Prop} {w : World}
theorem pedit_same (hP : PSv σ svb P w) (a : Nat) (g : Int) (ha : a < σ.cs.length) (hg : 0 ≤ g ∧ g ≤ 9) (he : σ.cs[a] = g) :
    Calls Tryz.prog 16 #[.pointer (some ⟨svb, 0, none⟩), .int .i64 (a : Int), .int .i64 g] w fun e w' => e = .returned (.int .i64 0) ∧ Below w.heap.size w w' := by
  obtain ⟨hok, hlt, ga, gc, xs, W, N, hX, hin⟩ := hP
  have hn := hok.n
  obtain ⟨b, rfl, hWb, e0, fb, hX1⟩ := hX.ground a ha g
  have c2 := hX.c2
  have zs : svb < w.heap.size := cell_lt c2
  have zb : b < w.heap.size := cell_lt e0
  rw [he] at e0
  obtain ⟨m, hm⟩ : ∃ m, m = σ.cs.length := ⟨_, rfl⟩
  rw [← hm] at c2
  have i1 : (0 : Int) ≤ (a : Int) ∧ (a : Int) < (m : Int) := by omega
  have q1 : ((a : Int) < 0) = False := by simp
  have q2 : ((m : Int) ≤ (a : Int)) = False := by simp; omega
  have q3 : (g < 0) = False := by simp; omega
  have q4 : (9 < g) = False := by simp; omega
  have q5 : (g == g) = true := by simp
  replace hm := hide hm
  clear hX1 hX hin hlt hok hn fb hWb he ha hg
  go_enter Tryz.func16, Tryz.ntmps16
  go_wp2
  go_ret
  exact ⟨rfl, bel⟩
theorem redit_same (hP : RSv σ rvb P w) (a : Nat) (g : Int) (ha : a < σ.cs.length) (hg : 0 ≤ g ∧ g ≤ 9) (he : σ.cs[a] = g) :
    Calls Tryz.prog 17 #[.pointer (some ⟨rvb, 0, none⟩), .int .i64 (a : Int), .int .i64 g] w fun e w' => e = .returned (.int .i64 0) ∧ Below w.heap.size w w' := by
  obtain ⟨hok, hlt, ga, gc, xs, W, N, hX, hin⟩ := hP
  have hn := hok.n
  obtain ⟨b, rfl, hWb, e0, fb, hX1⟩ := hX.ground a ha g
  have c2 := hX.c2
  have zs : rvb < w.heap.size := cell_lt c2
  have zb : b < w.heap.size := cell_lt e0
  rw [he] at e0
  obtain ⟨m, hm⟩ : ∃ m, m = σ.cs.length := ⟨_, rfl⟩
  rw [← hm] at c2
  have i1 : (0 : Int) ≤ (a : Int) ∧ (a : Int) < (m : Int) := by omega
  have q1 : ((a : Int) < 0) = False := by simp
  have q2 : ((m : Int) ≤ (a : Int)) = False := by simp; omega
  have q3 : (g < 0) = False := by simp; omega
  have q4 : (9 < g) = False := by simp; omega
  have q5 : (g == g) = true := by simp
  replace hm := hide hm
  clear hX1 hX hin hlt hok hn fb hWb he ha hg
  go_enter Tryz.func17, Tryz.ntmps17
  go_wp2
  go_ret
  exact ⟨rfl, bel⟩
theorem editOk {x g : Int} (h : editErr σ x g = 0) : ∃ a : Nat, x = (a : Int) ∧ a < σ.cs.length ∧ 0 ≤ g ∧ g ≤ 9 := by
  unfold editErr at h
  by_cases h1 : x < 0 ∨ x ≥ (σ.cs.length : Int)
  · rw [if_pos h1] at h; omega
  · rw [if_neg h1] at h
    by_cases h2 : g < 0 ∨ g > 9
    · rw [if_pos h2] at h; omega
    · obtain ⟨a, rfl⟩ := Int.eq_ofNat_of_zero_le (show 0 ≤ x by omega)
      exact ⟨a, rfl, by omega, by omega, by omega⟩
theorem editIs_same {a : Nat} {g : Int} (h : editErr σ (a : Int) g = 0) (ha : a < σ.cs.length) (he : σ.cs[a] = g) : EditIs σ (a : Int) g 0 σ := .inr ⟨h, rfl, .inl ⟨by show σ.cs[a]? = some g; rw [List.getElem?_eq_getElem ha, he], rfl⟩⟩
theorem editIs_go {a : Nat} {g : Int} (h : editErr σ (a : Int) g = 0) (ha : a < σ.cs.length) (he : σ.cs[a] ≠ g) : EditIs σ (a : Int) g 0 (σ.edK a g 6) := .inr ⟨h, rfl, .inr ⟨by show σ.cs[a]? ≠ some g; rw [List.getElem?_eq_getElem ha]; simpa using he, rfl⟩⟩
theorem pedit_any (hP : PSv σ svb P w) (x g : Int) :
    Calls Tryz.prog 16 #[.pointer (some ⟨svb, 0, none⟩), .int .i64 x, .int .i64 g] w fun e w' => ∃ er σ', e = .returned (.int .i64 er) ∧ EditIs σ x g er σ' ∧ PLeft σ' svb P w w' := by
  by_cases h0 : editErr σ x g = 0
  · obtain ⟨a, rfl, ha, hg⟩ := editOk h0
    by_cases he : σ.cs[a] = g
    · refine (pedit_same hP a g ha hg he).mono ?_
      rintro e w' ⟨rfl, hb⟩
      exact ⟨0, σ, rfl, editIs_same h0 ha he, PLeft.same hP hb⟩
    · refine (pedit_go hP a g ha hg he).mono ?_
      rintro e w' ⟨rfl, hL⟩
      exact ⟨0, _, rfl, editIs_go h0 ha he, hL⟩
  · have hG : ∃ W H, Gd W H σ.cs svb w := by obtain ⟨hok, hlt, ga, gc, xs, W, N, hX, hin⟩ := hP; exact ⟨_, _, hX.gd⟩
    obtain ⟨W, H, hG⟩ := hG
    refine (pedit_bad (σ := σ) rfl hG x g h0).mono ?_
    rintro e w' ⟨rfl, hb⟩
    exact ⟨_, σ, rfl, .inl ⟨h0, rfl, rfl⟩, PLeft.same hP hb⟩
theorem redit_any (hP : RSv σ rvb P w) (x g : Int) :
    Calls Tryz.prog 17 #[.pointer (some ⟨rvb, 0, none⟩), .int .i64 x, .int .i64 g] w fun e w' => ∃ er σ', e = .returned (.int .i64 er) ∧ EditIs σ x g er σ' ∧ RLeft σ' rvb P w w' := by
  by_cases h0 : editErr σ x g = 0
  · obtain ⟨a, rfl, ha, hg⟩ := editOk h0
    by_cases he : σ.cs[a] = g
    · refine (redit_same hP a g ha hg he).mono ?_
      rintro e w' ⟨rfl, hb⟩
      exact ⟨0, σ, rfl, editIs_same h0 ha he, RLeft.same hP hb⟩
    · refine (redit_go hP a g ha hg he).mono ?_
      rintro e w' ⟨rfl, hL⟩
      exact ⟨0, _, rfl, editIs_go h0 ha he, hL⟩
  · have hG : ∃ W H, Gd W H σ.cs rvb w := by obtain ⟨hok, hlt, ga, gc, xs, W, N, hX, hin⟩ := hP; exact ⟨_, _, hX.gd⟩
    obtain ⟨W, H, hG⟩ := hG
    refine (redit_bad (σ := σ) rfl hG x g h0).mono ?_
    rintro e w' ⟨rfl, hb⟩
    exact ⟨_, σ, rfl, .inl ⟨h0, rfl, rfl⟩, RLeft.same hP hb⟩
theorem frameOk {b : Int} (h : frameErr b = 0) : ∃ B : Nat, b = (B : Int) ∧ B ≤ 10000 := by
  unfold frameErr at h
  by_cases h1 : b < 0 ∨ b > 10000
  · rw [if_pos h1] at h; omega
  · obtain ⟨B, rfl⟩ := Int.eq_ofNat_of_zero_le (show 0 ≤ b by omega)
    exact ⟨B, rfl, by omega⟩
theorem pframe_any (hP : PSv σ svb P w) (b : Int) :
    Calls Tryz.prog 18 #[.pointer (some ⟨svb, 0, none⟩), .int .i64 b] w fun e w' => ∃ n er σ', e = .returned (.tuple #[.int .i64 n, .int .i64 er]) ∧ FrameIs σ b n er σ' ∧ PLeft σ' svb P w w' := by
  by_cases h0 : frameErr b = 0
  · obtain ⟨B, rfl, hB⟩ := frameOk h0
    refine (pframe_ok hP B hB).mono ?_
    rintro e w' ⟨k, σ', rfl, hF, hL⟩
    exact ⟨k, 0, σ', rfl, .inr ⟨h0, rfl, k, rfl, hF⟩, hL⟩
  · refine (pframe_bad svb b w h0).mono ?_
    rintro e w' ⟨rfl, hb⟩
    exact ⟨0, 1, σ, rfl, .inl ⟨h0, rfl, rfl, rfl⟩, PLeft.same hP hb⟩
theorem rframe_any (hP : RSv σ rvb P w) (b : Int) :
    Calls Tryz.prog 19 #[.pointer (some ⟨rvb, 0, none⟩), .int .i64 b] w fun e w' => ∃ n er σ', e = .returned (.tuple #[.int .i64 n, .int .i64 er]) ∧ FrameIs σ b n er σ' ∧ RLeft σ' rvb P w w' := by
  by_cases h0 : frameErr b = 0
  · obtain ⟨B, rfl, hB⟩ := frameOk h0
    refine (rframe_ok hP B hB).mono ?_
    rintro e w' ⟨k, σ', rfl, hF, hL⟩
    exact ⟨k, 0, σ', rfl, .inr ⟨h0, rfl, k, rfl, hF⟩, hL⟩
  · refine (rframe_bad rvb b w h0).mono ?_
    rintro e w' ⟨rfl, hb⟩
    exact ⟨0, 1, σ, rfl, .inl ⟨h0, rfl, rfl, rfl⟩, RLeft.same hP hb⟩
theorem PSv.pollLen (hP : PSv σ svb P w) (id : Int) : (pollQ (σ.at id)).2.1.path.length ≤ 64 := by
  cases hq : σ.at id with
  | none => show (0 : Nat) ≤ 64; omega
  | some q =>
    have hr : 0 ≤ id ∧ id < 6 := Classical.byContradiction fun hc => by rw [at_out (by omega)] at hq; cases hq
    obtain ⟨k, rfl⟩ := Int.eq_ofNat_of_zero_le hr.1
    have hk : k < 6 := by omega
    rw [at_in hk] at hq
    obtain ⟨hok, hlt, ga, gc, xs, W, N, hX, hin⟩ := hP
    cases hl : q.s.told.getLast? with
    | some r =>
      have e : pollQ (some q) = (if q.s.told.length = q.ws.length then 4 else 2, r, 0) := by unfold pollQ; simp only [hl]
      rw [e]
      exact hX.paths k q hk hq r (List.mem_of_getLast? hl)
    | none =>
      cases hkq : q.kept with
      | some r =>
        have e : pollQ (some q) = (3, r, 0) := by unfold pollQ; simp only [hl, hkq]
        rw [e]
        exact (hok.q k q hk hq).k r hkq
      | none =>
        have e : pollQ (some q) = (1, rd0, 0) := by unfold pollQ; simp only [hl, hkq]
        rw [e]
        show (0 : Nat) ≤ 64
        omega
end
set_option maxHeartbeats 1000000 in
theorem sameans_any (a : Int × RD × Int) (p1 p2 : Option Addr) (m c1 c2 : Nat) (w : World) (hm : a.2.1.path.length = m) (hm2 : m ≤ 64) (h1 : Row encI 1 w w.heap.size p1 a.2.1.path) (h2 : Row encI 1 w w.heap.size p2 a.2.1.path) :
    Calls Tryz.prog 22 #[.agg #[.int .i64 a.1, .int .i64 a.2.1.wa, .int .i64 a.2.1.wb, .slice p1 m c1, .int .i64 a.2.1.cost, .int .i64 (a.2.1.done : Int)], .agg #[.int .i64 a.1, .int .i64 a.2.1.wa, .int .i64 a.2.1.wb, .slice p2 m c2, .int .i64 a.2.1.cost, .int .i64 (a.2.1.done : Int)]] w fun e w' => e = .returned (.bool true) ∧ Below w.heap.size w w' := by
  have hS := hide (fun (w' : World) (hb : Below w.heap.size w w') => sameround_any a.2.1.wa a.2.1.wb a.2.1.cost (a.2.1.done : Int) p1 p2 m c1 c2 a.2.1.path w' hm ((h1.below hb (Nat.le_refl _)).mono hb.size) ((h2.below hb (Nat.le_refl _)).mono hb.size) (by omega))
  obtain ⟨st, r, er⟩ := a
  simp only at hS ⊢
  have q1 : (st == st) = true := by simp
  clear h1 h2
  replace hm := hide hm
  go_enter Tryz.func22, Tryz.ntmps22
  go_wp2_with fail
  refine (hS.out _ (by exact bel)).mono ?_
  rintro e w1 ⟨rfl, hb1⟩
  have hb2 := hide (((bel : Below w.heap.size w _)).trans (hb1.mono (by simp; omega)))
  clear hb1
  go_wp2
  go_ret
  exact ⟨rfl, hb2.out⟩
set_option maxHeartbeats 1000000 in
theorem samegrid_any (W H : Int) (a b : Option Addr) (c1 c2 m : Nat) (xs : List Int) (w : World) (hm : xs.length = m) (hm2 : m ≤ 9223372036854775807) (hx : Row encI 1 w w.heap.size a xs) (hy : Row encI 1 w w.heap.size b xs) :
    Calls Tryz.prog 23 #[.agg #[.int .i64 W, .int .i64 H, .slice a m c1], .agg #[.int .i64 W, .int .i64 H, .slice b m c2]] w fun e w' => e = .returned (.bool true) ∧ Below w.heap.size w w' := by
  have hE := hide (fun (w' : World) (hb : Below w.heap.size w w') => eqI a b c1 c2 m m xs xs w' w'.heap.size w'.heap.size hm hm ((hx.below hb (Nat.le_refl _)).mono hb.size) ((hy.below hb (Nat.le_refl _)).mono hb.size) hm2 hm2 true (by simp))
  have q1 : (W == W) = true := by simp
  have q2 : (H == H) = true := by simp
  clear hx hy
  replace hm := hide hm
  go_enter Tryz.func23, Tryz.ntmps23
  go_wp2_with fail
  refine (hE.out _ bel).mono ?_
  rintro e w1 ⟨rfl, k1, rfl⟩
  go_wp2
  go_ret
  exact ⟨rfl, bel⟩
theorem lat_any (a : Option Addr) (m c : Nat) (xs : List Int) (i : Nat) (w : World) (B : Nat) (hB : B ≤ w.heap.size) (hm : xs.length = m) (hE : Row encI 1 w B a xs) (hm2 : m ≤ 9223372036854775807) (hi : i ≤ 2) :
    Calls Tryz.prog 7 #[.slice a m c, .int .i64 (i : Int)] w fun e w' => e = .returned (.int .i64 (xs.getD i 0)) ∧ Below w.heap.size w w' := by
  by_cases h : i < m
  · obtain ⟨b, o, rfl, hb, hc⟩ := hE i (by omega)
    have c0 : w.cell? ⟨b, o + i, none⟩ = some (.int .i64 xs[i]) := by simpa [Nat.mul_one] using hc 0 _ rfl
    have hv := hide (show xs[i] = xs.getD i 0 by unfold List.getD; rw [List.getElem?_eq_getElem (by omega)]; rfl)
    generalize xs[i] = x at c0 hv
    have zb : b < w.heap.size := by omega
    have i1 : (0 : Int) ≤ (i : Int) ∧ (i : Int) < (m : Int) := by omega
    replace hm := hide hm
    clear hE hc
    go_enter Tryz.func7, Tryz.ntmps7
    go_wp2
    go_ret
    exact ⟨ret_int hv.out, bel⟩
  · have q1 : ((i : Int) < (m : Int)) = False := by simp; omega
    have hv := hide (show (0 : Int) = xs.getD i 0 by unfold List.getD; rw [List.getElem?_eq_none (by omega)]; rfl)
    replace hm := hide hm
    clear hE h
    go_enter Tryz.func7, Tryz.ntmps7
    go_wp2
    go_ret
    exact ⟨ret_int hv.out, bel⟩
end Go.Proofs.YtccailcjclbhlaaGreat
