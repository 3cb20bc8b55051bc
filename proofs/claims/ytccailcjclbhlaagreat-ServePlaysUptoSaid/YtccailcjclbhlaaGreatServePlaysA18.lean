/-
  A part of the proof of ServePlays: SvR SvS SvT
-/
import Derived.Test.YtccailcjclbhlaaGreatServePlaysA17
import Derived.Test.YtccailcjclbhlaaGreatServePlaysA6
/-! The document's service: NewService, its search, is, Drop. Conditions: stated with each. -/
namespace Go.Proofs.YtccailcjclbhlaaGreat
open Go.RowKit
set_option linter.unusedSimpArgs false
set_option linter.unusedVariables false
attribute [local instance] AFr.none
/-- what a method leaves -/
def RLeft (σ' : Sv) (rvb : Nat) (P : Nat → Prop) (w w' : World) : Prop := RSv σ' rvb (grown P w w') w' ∧ Keep P w w'
section
variable {σ : Sv} {rvb : Nat} {P : Nat → Prop} {w wr w' : World}
theorem RLeft.same (h : RSv σ rvb P w) (hb : Below w.heap.size w w') : RLeft σ rvb P w w' := by
  have h1 := h.stays hb
  refine ⟨⟨h1.1, fun j hj => ?_, ?_⟩, Keep.new hb⟩
  · rcases hj with hj | hj
    · exact h1.2.1 j hj
    · exact hj.2
  · obtain ⟨_, _, ga, gc, xs, W, N, h3, h4⟩ := h1
    exact ⟨ga, gc, xs, W, N, h3, fun i j q => .inl (h4 i j q)⟩
theorem RLeft.stays (h : RLeft σ rvb P w wr) (hb : Below wr.heap.size wr w') : RLeft σ rvb P w w' := by
  refine ⟨⟨h.1.1, fun j hj => ?_, ?_⟩, h.2.trans (Keep.new hb)⟩
  · rcases hj with hj | hj
    · exact Nat.lt_of_lt_of_le (h.1.2.1 j (.inl hj)) hb.size
    · exact hj.2
  · obtain ⟨ga, gc, xs, W, N, hX, hin⟩ := h.1.2.2
    exact ⟨ga, gc, xs, W, N, hX.stays hb, fun i j q => (hin i j q).elim .inl (fun q => .inr ⟨q.1, Nat.lt_of_lt_of_le q.2 hb.size⟩)⟩
theorem RSx.noneAt {ef : Nat → List Ed} {gc : Nat} {ga : Option Addr} {xs : Nat → AV} {W N : Nat → Nat → Prop} (h : RSx σ ef rvb ga gc xs W N w) {k : Nat} (hk : k < 6) (e : σ.sl k = none) : xs k = av0 := by
  rcases h.sl k hk with ⟨h1, h2⟩ | ⟨q, h1, h3⟩
  · exact h2
  · rw [e] at h1; cases h1
theorem RSx.someAt {ef : Nat → List Ed} {gc : Nat} {ga : Option Addr} {xs : Nat → AV} {W N : Nat → Nat → Prop} (h : RSx σ ef rvb ga gc xs W N w) {k : Nat} (hk : k < 6) {q : Sq} (e : σ.sl k = some q) : RQ (ef k) σ.cs.length q (xs k) (W k) (N k) w := by
  rcases h.sl k hk with ⟨h1, h2⟩ | ⟨q', h1, h3⟩
  · rw [e] at h1; cases h1
  · rw [e] at h1; cases h1; exact h3
/-- the six cells of a request -/
theorem RSx.six {ef : Nat → List Ed} {gc : Nat} {ga : Option Addr} {xs : Nat → AV} {W N : Nat → Nat → Prop} (h : RSx σ ef rvb ga gc xs W N w) {k : Nat} (hk : k < 6) : w.cell? ⟨rvb, 3 + k * 6, none⟩ = some (.bool (xs k).is) ∧ w.cell? ⟨rvb, 3 + k * 6 + 1, none⟩ = some (.int .i64 (xs k).f) ∧ w.cell? ⟨rvb, 3 + k * 6 + 2, none⟩ = some (.int .i64 (xs k).t) ∧ w.cell? ⟨rvb, 3 + k * 6 + 3, none⟩ = some (.slice (xs k).aw (xs k).am (xs k).ac) ∧ w.cell? ⟨rvb, 3 + k * 6 + 4, none⟩ = some (.pointer (xs k).p) ∧ w.cell? ⟨rvb, 3 + k * 6 + 5, none⟩ = some (.slice (xs k).ka (xs k).km (xs k).kc) :=
  ⟨h.cx k hk 0 _ rfl, h.cx k hk 1 _ rfl, h.cx k hk 2 _ rfl, h.cx k hk 3 _ rfl, h.cx k hk 4 _ rfl, h.cx k hk 5 _ rfl⟩
end
/-- a record written -/
def put6 (w : World) (b o : Nat) (x : AV) : World := (((((w.setCell ⟨b, o, none⟩ (.bool x.is)).setCell ⟨b, o + 1, none⟩ (.int .i64 x.f)).setCell ⟨b, o + 2, none⟩ (.int .i64 x.t)).setCell ⟨b, o + 3, none⟩ (.slice x.aw x.am x.ac)).setCell ⟨b, o + 4, none⟩ (.pointer x.p)).setCell ⟨b, o + 5, none⟩ (.slice x.ka x.km x.kc)
theorem put6_ok {w : World} {b o : Nat} (x : AV) {v0 v1 v2 v3 v4 v5 : Value} (c0 : w.cell? ⟨b, o, none⟩ = some v0) (c1 : w.cell? ⟨b, o + 1, none⟩ = some v1) (c2 : w.cell? ⟨b, o + 2, none⟩ = some v2) (c3 : w.cell? ⟨b, o + 3, none⟩ = some v3) (c4 : w.cell? ⟨b, o + 4, none⟩ = some v4) (c5 : w.cell? ⟨b, o + 5, none⟩ = some v5) :
    (∀ j u, (encA x)[j]? = some u → (put6 w b o x).cell? ⟨b, o + j, none⟩ = some u) ∧ (∀ o', (o' < o ∨ o + 6 ≤ o') → ∀ v, w.cell? ⟨b, o', none⟩ = some v → (put6 w b o x).cell? ⟨b, o', none⟩ = some v) ∧ (∀ o', w.frozen? ⟨b, o', none⟩ = false → (put6 w b o x).frozen? ⟨b, o', none⟩ = false) ∧ Keep (fun j => j = b) w (put6 w b o x) := by
  have same : ∀ {w : World} {i : Nat} {v : Value} (u : Value), w.cell? ⟨b, i, none⟩ = some v → (w.setCell ⟨b, i, none⟩ u).cell? ⟨b, i, none⟩ = some u := fun u h => World.cell?_setCell_same' _ _ _ (by rw [h]; rfl)
  have off : ∀ {w : World} {i j : Nat} {v u : Value}, w.cell? ⟨b, i, none⟩ = some v → j ≠ i → (w.setCell ⟨b, j, none⟩ u).cell? ⟨b, i, none⟩ = some v := fun h hne => cu_set_off h hne
  unfold put6
  refine ⟨fun j u hu => ?_, fun o' ho v hv => ?_, fun o' h => fu_set (fu_set (fu_set (fu_set (fu_set (fu_set h))))), (((((((Keep.refl (fun j => j = b) w).setCell (p := ⟨b, o, none⟩) (.inl rfl) _).setCell (p := ⟨b, o + 1, none⟩) (.inl rfl) _).setCell (p := ⟨b, o + 2, none⟩) (.inl rfl) _).setCell (p := ⟨b, o + 3, none⟩) (.inl rfl) _).setCell (p := ⟨b, o + 4, none⟩) (.inl rfl) _).setCell (p := ⟨b, o + 5, none⟩) (.inl rfl) _)⟩
  · have hj : j < 6 := by have := (List.getElem?_eq_some_iff.1 hu).1; simpa [encA] using this
    match j, hj with
    | 0, _ => cases hu; exact off (off (off (off (off (same _ c0) (by omega)) (by omega)) (by omega)) (by omega)) (by omega)
    | 1, _ => cases hu; exact off (off (off (off (same _ (off c1 (by omega))) (by omega)) (by omega)) (by omega)) (by omega)
    | 2, _ => cases hu; exact off (off (off (same _ (off (off c2 (by omega)) (by omega))) (by omega)) (by omega)) (by omega)
    | 3, _ => cases hu; exact off (off (same _ (off (off (off c3 (by omega)) (by omega)) (by omega))) (by omega)) (by omega)
    | 4, _ => cases hu; exact off (same _ (off (off (off (off c4 (by omega)) (by omega)) (by omega)) (by omega))) (by omega)
    | 5, _ => cases hu; exact same _ (off (off (off (off (off c5 (by omega)) (by omega)) (by omega)) (by omega)) (by omega))
  · exact off (off (off (off (off (off hv (by omega)) (by omega)) (by omega)) (by omega)) (by omega)) (by omega)
set_option maxRecDepth 100000 in
set_option maxHeartbeats 1000000 in
theorem ris_any {σ : Sv} {rvb : Nat} {P : Nat → Prop} {w : World} (hP : RSv σ rvb P w) (id : Int) :
    Calls Tryz.prog 31 #[.pointer (some ⟨rvb, 0, none⟩), .int .i64 id] w fun e w' => e = .returned (.bool (σ.at id).isSome) ∧ Below w.heap.size w w' := by
  by_cases h : id < 0 ∨ 6 ≤ id
  · rw [at_out h]
    by_cases q1 : id < 0
    · have q2 : (0 ≤ id) = False := by simp; omega
      clear h q1
      go_enter Tryz.func31, Tryz.ntmps31
      go_wp2
      go_ret
      exact ⟨rfl, bel⟩
    · have q2 : (0 ≤ id) = True := by simp; omega
      have q3 : (id ≤ 5) = False := by simp; omega
      clear h q1
      go_enter Tryz.func31, Tryz.ntmps31
      go_wp2
      go_ret
      exact ⟨rfl, bel⟩
  · obtain ⟨k, rfl⟩ := Int.eq_ofNat_of_zero_le (show 0 ≤ id by omega)
    have hk : k < 6 := by omega
    rw [at_in hk]
    have q2 : (0 ≤ (k : Int)) = True := by simp
    have q3 : ((k : Int) ≤ 5) = True := by simp; omega
    have i1 : (0 : Int) ≤ (k : Int) ∧ (k : Int) < 6 := by omega
    obtain ⟨hok, hlt, ga, gc, xs, W, N, hX, hin⟩ := hP
    have c0 := (hX.six hk).1
    have hv : (xs k).is = (σ.sl k).isSome := by
      cases hq : σ.sl k with
      | none => rw [hX.noneAt hk hq]; rfl
      | some q => obtain ⟨rb, R, C, hQ⟩ := hX.someAt hk hq; rw [hQ.a0]; rfl
    rw [hv] at c0
    have z0 := cell_lt c0
    simp only at z0
    obtain ⟨v, hv2⟩ : ∃ v, v = (σ.sl k).isSome := ⟨_, rfl⟩
    rw [← hv2] at c0 ⊢
    clear hX hin hlt hok hv hv2 h
    go_enter Tryz.func31, Tryz.ntmps31
    go_wp2
    go_ret
    exact ⟨rfl, bel⟩
set_option maxRecDepth 100000 in
set_option maxHeartbeats 2000000 in
theorem rdrop_any {σ : Sv} {rvb : Nat} {P : Nat → Prop} {w : World} (hP : RSv σ rvb P w) (id : Int) :
    Calls Tryz.prog 15 #[.pointer (some ⟨rvb, 0, none⟩), .int .i64 id] w fun e w' => ∃ er σ', e = .returned (.int .i64 er) ∧ DropIs σ id er σ' ∧ RLeft σ' rvb P w w' := by
  have hS := hide (fun (w' : World) (hb : Below w.heap.size w w') => RLeft.same hP hb)
  have hI := hide (ris_any hP id)
  cases hq : σ.at id with
  | none =>
    rw [hq] at hI
    replace hI : Hid (Calls Tryz.prog 31 #[.pointer (some ⟨rvb, 0, none⟩), .int .i64 id] w fun e w' => e = .returned (.bool false) ∧ Below w.heap.size w w') := hI
    replace hq := hide hq
    clear hP
    go_enter Tryz.func15, Tryz.ntmps15
    go_wp2_with fail
    refine hI.out.mono ?_
    rintro e w1 ⟨rfl, hb1⟩
    go_wp2
    go_ret
    exact ⟨5, σ, rfl, .inl ⟨hq.out, rfl, rfl⟩, hS.out _ hb1⟩
  | some q =>
    rw [hq] at hI
    replace hI : Hid (Calls Tryz.prog 31 #[.pointer (some ⟨rvb, 0, none⟩), .int .i64 id] w fun e w' => e = .returned (.bool true) ∧ Below w.heap.size w w') := hI
    have hr : 0 ≤ id ∧ id < 6 := Classical.byContradiction fun hc => by rw [at_out (by omega)] at hq; cases hq
    obtain ⟨k, rfl⟩ := Int.eq_ofNat_of_zero_le hr.1
    have hk : k < 6 := by omega
    have i1 : (0 : Int) ≤ (k : Int) ∧ (k : Int) < 6 := by omega
    have hfin := hide (show ∀ w1, Below w.heap.size w w1 → (∃ v0 v1 v2 v3 v4 v5, w1.cell? ⟨rvb, 3 + k * 6, none⟩ = some v0 ∧ w1.cell? ⟨rvb, 3 + k * 6 + 1, none⟩ = some v1 ∧ w1.cell? ⟨rvb, 3 + k * 6 + 2, none⟩ = some v2 ∧ w1.cell? ⟨rvb, 3 + k * 6 + 3, none⟩ = some v3 ∧ w1.cell? ⟨rvb, 3 + k * 6 + 4, none⟩ = some v4 ∧ w1.cell? ⟨rvb, 3 + k * 6 + 5, none⟩ = some v5) ∧ (∀ o, w1.frozen? ⟨rvb, o, none⟩ = false) ∧ ∀ w', w' = (((((w1.setCell ⟨rvb, 3 + k * 6, none⟩ (.bool false)).setCell ⟨rvb, 3 + k * 6 + 1, none⟩ (.int .i64 0)).setCell ⟨rvb, 3 + k * 6 + 2, none⟩ (.int .i64 0)).setCell ⟨rvb, 3 + k * 6 + 3, none⟩ (.slice none 0 0)).setCell ⟨rvb, 3 + k * 6 + 4, none⟩ (.pointer none)).setCell ⟨rvb, 3 + k * 6 + 5, none⟩ (.slice none 0 0) → RLeft (σ.drop (k : Int)) rvb P w w' from fun w1 hb => by
      obtain ⟨hok, hlt, ga, gc, xs, W, N, hX0, hin⟩ := hP
      have hX := hX0.stays hb
      obtain ⟨c0, c1, c2, c3, c4, c5⟩ := hX.six hk
      refine ⟨⟨_, _, _, _, _, _, c0, c1, c2, c3, c4, c5⟩, hX.fz, fun w' hw' => ?_⟩
      obtain ⟨p1, p2, p3, kp⟩ := put6_ok av0 c0 c1 c2 c3 c4 c5
      have hw2 : w' = put6 w1 rvb (3 + k * 6) av0 := hw'
      rw [← hw2] at p1 p2 p3 kp
      have h1 := hX.slot hk kp (fun j e => .inl e) (fun o ho v hv => p2 o (by omega) v hv) p1 (fun o => p3 o (hX.fz o)) none (ef := fun _ => σ.es) σ.es (W' := W k) (N' := N k) (fun j h => .inl h) (fun j h => .inr (.inl h)) (fun j h => hX.lay.ap k k j h) (.inl ⟨rfl, rfl⟩)
      rw [upz_self W k, upz_self N k, show upz (fun _ => σ.es) k σ.es = (fun _ => σ.es) from upz_self (fun _ => σ.es) k] at h1
      refine ⟨⟨⟨hok.g, hok.u, fun i q' hi hq' => ?_⟩, fun j hj => ?_, ga, gc, _, W, N, h1, fun i j q => .inl (hin i j q)⟩, (Keep.new hb).trans (kp.mono (fun j _ e => by rw [e]; exact hin 6 rvb (.inl hX.own)))⟩
      · by_cases e : i = k
        · subst e; rw [show (σ.drop (i : Int)).sl = upz σ.sl i none from rfl, upz_same] at hq'; cases hq'
        · rw [show (σ.drop (k : Int)).sl = upz σ.sl k none from rfl, upz_other _ _ e] at hq'; exact hok.q i q' hi hq'
      · rcases hj with hj | hj
        · exact Nat.lt_of_lt_of_le (hlt j hj) (Nat.le_trans hb.size kp.size)
        · exact hj.2)
    replace hq := hide hq
    clear hP
    go_enter Tryz.func15, Tryz.ntmps15
    go_wp2_with fail
    refine hI.out.mono ?_
    rintro e w1 ⟨rfl, hb1⟩
    obtain ⟨⟨v0, v1, v2, v3, v4, v5, c0, c1, c2, c3, c4, c5⟩, hf, hend⟩ := hfin.out w1 hb1
    have f0 := hf (3 + k * 6)
    have f1 := hf (3 + k * 6 + 1)
    have f2 := hf (3 + k * 6 + 2)
    have f3 := hf (3 + k * 6 + 3)
    have f4 := hf (3 + k * 6 + 4)
    have f5 := hf (3 + k * 6 + 5)
    have hend := hide hend
    have z0 : rvb < w1.heap.size := cell_lt c0
    go_wp2
    go_ret
    exact ⟨0, _, rfl, .inr ⟨by rw [hq.out]; simp, rfl, rfl⟩, hend.out _ rfl⟩
end Go.Proofs.YtccailcjclbhlaaGreat
/-! The document's service: slices.Clone of weights, NewService, its search. Conditions: stated with each. -/
namespace Go.Proofs.YtccailcjclbhlaaGreat
open Go.RowKit
set_option linter.unusedSimpArgs false
set_option linter.unusedVariables false
set_option maxRecDepth 100000 in
set_option maxHeartbeats 1000000 in
theorem cloneP (a : Option Addr) (cap n : Nat) (xs : List P2) (w : World) (B : Nat) (hB : B ≤ w.heap.size) (hn : xs.length = n) (hE : Row encP 2 w B a xs) (hl : n ≤ 1048576) :
    Calls Tryz.prog 29 #[.slice a n cap] w (OwnBack encP 2 56 xs n w) := by
  have kn := fun (w : World) (a : Option Addr) (n c n' c' : Nat) => Lib.run_eql_slice_nil (P := Tryz.prog) w 26 56 a n c n' c' Tryz.underlying26
  cases a with
  | none =>
    obtain rfl := row_nil hE
    obtain rfl : n = 0 := by simpa using hn.symm
    clear hE hn
    go_enter Tryz.func29, Tryz.ntmps29
    go_wp2
    go_ret
    exact ⟨none, 0, rfl, Own.nil _ _, Below.refl _ _⟩
  | some ad =>
    have hn2 := hide hn
    clear hn
    go_enter Tryz.func29, Tryz.ntmps29
    go_wp2_with (at_builtin; (refine wpList_pushAll (e := 56) (enc := encP) (xs := []) (v := .slice (some ⟨w.heap.size, 0, none⟩) 0 0) (base := w.heap.size) rfl (.tmp 5) (.tmp 6) 26 rfl _ 16 Tryz.underlying26 info_ratioN rfl ?c0 lenP oneP 0 ?c1 ?c2 ?c3 B (some ad) n cap xs ?c4 ?c5 ?c6 ?c7 ?c8 ?c9 ?c10 ?_); (case c0 => omega); (case c1 => rfl); (case c2 => rfl); (case c3 => exact own_bare w w.heap.size (Nat.le_refl _)); (case c4 => exact hn2.out); (case c5 => rfl); (case c6 => intro h; cases h); (case c7 => exact hE.below (up_alloc (Below.refl _ _) (Nat.le_refl _) : Below w.heap.size w _) hB); (case c8 => omega); (case c9 => unfold maxLen; omega); (case c10 => simp); intro av c' w1 own1 hb1 _; simp only [List.nil_append, Nat.zero_add] at own1 ⊢; have hb2 := unalloc hb1 (by simp))
    go_ret
    exact ⟨av, c', rfl, own1, hb2⟩
theorem RSv.fresh {W H : Int} {cs : List Int} {ga : Option Addr} {gc b0 : Nat} {w1 : World} {ty : TypeId} (h0 : gridErr W H cs = 0) (own : Own encI 1 3 w1 b0 (.slice ga cs.length gc) cs) (hb : b0 ≤ w1.heap.size) :
    RSv (sv0 W H cs) w1.heap.size (fun j => j = w1.heap.size ∨ (Value.slice ga cs.length gc).ownBlock = some j) (w1.alloc (.cells #[.int .i64 W, .int .i64 H, .slice ga cs.length gc, .bool false, .int .i64 0, .int .i64 0, .slice none 0 0, .pointer none, .slice none 0 0, .bool false, .int .i64 0, .int .i64 0, .slice none 0 0, .pointer none, .slice none 0 0, .bool false, .int .i64 0, .int .i64 0, .slice none 0 0, .pointer none, .slice none 0 0, .bool false, .int .i64 0, .int .i64 0, .slice none 0 0, .pointer none, .slice none 0 0, .bool false, .int .i64 0, .int .i64 0, .slice none 0 0, .pointer none, .slice none 0 0, .bool false, .int .i64 0, .int .i64 0, .slice none 0 0, .pointer none, .slice none 0 0, .int .i64 0] ty)) := by
  have hlt := fun j => own.block_lt j
  refine ⟨⟨h0, by show 0 < 6; omega, fun i q _ h => by cases h⟩, fun j hj => ?_, ga, gc, fun _ => av0, fun i j => (i = 6 ∧ j = w1.heap.size) ∨ (i = 7 ∧ (Value.slice ga cs.length gc).ownBlock = some j), fun _ _ => False, ⟨⟨fun i j q => ?_, fun i k j q r => ?_, fun _ _ _ _ h => h⟩, by simp [go_sem]; rfl, by simp [go_sem]; rfl, by simp [go_sem]; rfl, fun i hi k u hu => ?_, by simp [go_sem]; rfl, fun o => by simp [go_sem], .inl ⟨rfl, rfl⟩, (own.alloc _).base_le (Nat.zero_le _), fun j e => .inr ⟨rfl, e⟩, fun i hi => .inl ⟨rfl, rfl⟩⟩, fun i j q => ?_⟩
  · rcases hj with rfl | hj
    · simp
    · have := (hlt j hj).2; simp; omega
  · rcases q with (⟨_, rfl⟩ | ⟨_, q⟩) | q
    · simp
    · have := (hlt j q).2; simp; omega
    · exact q.elim
  · rcases q with ⟨rfl, rfl⟩ | ⟨rfl, q⟩ <;> rcases r with ⟨rfl, r⟩ | ⟨rfl, r⟩
    · rfl
    · have := (hlt _ r).2; omega
    · have := (hlt _ q).2; omega
    · rfl
  · have hk : k < 6 := by have := (List.getElem?_eq_some_iff.1 hu).1; simpa [encA] using this
    match i, hi, k, hk with
    | 0, _, 0, _ => cases hu; simp [go_sem, av0]
    | 0, _, 1, _ => cases hu; simp [go_sem, av0]
    | 0, _, 2, _ => cases hu; simp [go_sem, av0]
    | 0, _, 3, _ => cases hu; simp [go_sem, av0]
    | 0, _, 4, _ => cases hu; simp [go_sem, av0]
    | 0, _, 5, _ => cases hu; simp [go_sem, av0]
    | 1, _, 0, _ => cases hu; simp [go_sem, av0]
    | 1, _, 1, _ => cases hu; simp [go_sem, av0]
    | 1, _, 2, _ => cases hu; simp [go_sem, av0]
    | 1, _, 3, _ => cases hu; simp [go_sem, av0]
    | 1, _, 4, _ => cases hu; simp [go_sem, av0]
    | 1, _, 5, _ => cases hu; simp [go_sem, av0]
    | 2, _, 0, _ => cases hu; simp [go_sem, av0]
    | 2, _, 1, _ => cases hu; simp [go_sem, av0]
    | 2, _, 2, _ => cases hu; simp [go_sem, av0]
    | 2, _, 3, _ => cases hu; simp [go_sem, av0]
    | 2, _, 4, _ => cases hu; simp [go_sem, av0]
    | 2, _, 5, _ => cases hu; simp [go_sem, av0]
    | 3, _, 0, _ => cases hu; simp [go_sem, av0]
    | 3, _, 1, _ => cases hu; simp [go_sem, av0]
    | 3, _, 2, _ => cases hu; simp [go_sem, av0]
    | 3, _, 3, _ => cases hu; simp [go_sem, av0]
    | 3, _, 4, _ => cases hu; simp [go_sem, av0]
    | 3, _, 5, _ => cases hu; simp [go_sem, av0]
    | 4, _, 0, _ => cases hu; simp [go_sem, av0]
    | 4, _, 1, _ => cases hu; simp [go_sem, av0]
    | 4, _, 2, _ => cases hu; simp [go_sem, av0]
    | 4, _, 3, _ => cases hu; simp [go_sem, av0]
    | 4, _, 4, _ => cases hu; simp [go_sem, av0]
    | 4, _, 5, _ => cases hu; simp [go_sem, av0]
    | 5, _, 0, _ => cases hu; simp [go_sem, av0]
    | 5, _, 1, _ => cases hu; simp [go_sem, av0]
    | 5, _, 2, _ => cases hu; simp [go_sem, av0]
    | 5, _, 3, _ => cases hu; simp [go_sem, av0]
    | 5, _, 4, _ => cases hu; simp [go_sem, av0]
    | 5, _, 5, _ => cases hu; simp [go_sem, av0]
  · rcases q with (⟨_, q⟩ | ⟨_, q⟩) | q
    · exact .inl q
    · exact .inr q
    · exact q.elim
set_option maxRecDepth 100000 in
set_option maxHeartbeats 2000000 in
theorem rnews_ok (W H : Int) (a : Option Addr) (cap : Nat) (cs : List Int) (w : World) (B : Nat) (hB : B ≤ w.heap.size) (hE : Row encI 1 w B a cs) (hl : cs.length ≤ 100000) (h0 : gridErr W H cs = 0) :
    Calls Tryz.prog 6 #[.agg #[.int .i64 W, .int .i64 H, .slice a cs.length cap]] w fun e w' => ∃ rvb P, e = .returned (.pointer (some ⟨rvb, 0, none⟩)) ∧ RSv (sv0 W H cs) rvb P w' ∧ (∀ j, P j → w.heap.size ≤ j) ∧ Below w.heap.size w w' := by
  have hF := hide (fun (ga : Option Addr) (gc b0 : Nat) (w1 : World) (ty : TypeId) own hb => RSv.fresh (ga := ga) (gc := gc) (b0 := b0) (w1 := w1) (ty := ty) h0 own hb)
  have hC := hide (fun (w' : World) (hb : Below w.heap.size w w') => cloneI a cap cs.length cs w' B (Nat.le_trans hB hb.size) rfl (hE.below hb hB) hl)
  obtain ⟨m, hm⟩ : ∃ m, m = cs.length := ⟨_, rfl⟩
  rw [← hm] at hC hF ⊢
  replace hm := hide hm
  clear hE hl h0
  go_enter Tryz.func6, Tryz.ntmps6
  go_wp2_with fail
  obtain ⟨w0, h0⟩ : ∃ w0, w0 = w.alloc (.cells #[.int .i64 W, .int .i64 H, .slice a m cap] 24) := ⟨_, rfl⟩
  obtain ⟨bg, hbg⟩ : ∃ bg, bg = w.heap.size := ⟨_, rfl⟩
  have hB0 := hide (show Below w.heap.size w w0 by rw [h0]; exact bel)
  have c0 : w0.cell? ⟨bg, 0, none⟩ = some (.int .i64 W) := by rw [h0, hbg]; simp [go_sem]
  have c1 : w0.cell? ⟨bg, 1, none⟩ = some (.int .i64 H) := by rw [h0, hbg]; simp [go_sem]
  have c2 : w0.cell? ⟨bg, 2, none⟩ = some (.slice a m cap) := by rw [h0, hbg]; simp [go_sem]
  have zg : bg < w0.heap.size := cell_lt c0
  have key := hide (show ∀ w', Below w0.heap.size w0 w' → (Below w0.heap.size w0 w' ∧ w'.cell? ⟨bg, 0, none⟩ = some (.int .i64 W) ∧ w'.cell? ⟨bg, 1, none⟩ = some (.int .i64 H) ∧ w'.cell? ⟨bg, 2, none⟩ = some (.slice a m cap)) from
    fun w' hb => ⟨hb, cu_below hb c0 zg, cu_below hb c1 zg, cu_below hb c2 zg⟩)
  simp only [← h0]
  simp only [← hbg]
  replace h0 := hide h0
  replace hbg := hide hbg
  clear c0 c1 c2
  go_region_held3 (fun w' => Below w0.heap.size w0 w' ∧ w'.cell? ⟨bg, 0, none⟩ = some (.int .i64 W) ∧ w'.cell? ⟨bg, 1, none⟩ = some (.int .i64 H) ∧ w'.cell? ⟨bg, 2, none⟩ = some (.slice a m cap))
    (first | exact key.out _ (below_drew _) | exact key.out _ (by assumption) | exact key.out _ (up_alloc_self (below_drew _)) | exact key.out _ (up_alloc_self (And.left (by assumption))) | exact key.out _ (up_alloc_self (by assumption)))
    (first | (go_at_call 11; have hb4 := (‹_ ∧ _› : _ ∧ _).1; refine (hC.out _ (hB0.out.trans (hb4.mono hB0.out.size))).mono ?_; rintro e w4 ⟨av, cv, rfl, own4, hb5⟩; have hb6 := below_step hb4 hb5))
  all_goals
    have hz4 := hb6.size
    have hob := fun j hj => (own4.block_lt j hj).1
    have hR := hide (hF.out av cv _ w4 49 own4 (by simp; omega))
    have hob2 := hide (show ∀ j, (j = w4.heap.size ∨ (Value.slice av m cv).ownBlock = some j) → w.heap.size ≤ j from fun j hj => by
      have := hB0.out.size
      rcases hj with rfl | hj
      · omega
      · have := hob j hj; simp at this; omega)
    have hbl := hide (hB0.out.trans (hb6.mono hB0.out.size))
    clear own4 hob
    go_wp2
    go_ret
    first
      | exact ⟨w4.heap.size, _, rfl, hR.out, hob2.out, hbl.out.alloc (by have := hbl.out.size; omega) _⟩
      | exact ⟨w4.heap.size, _, rfl, hR.out.stays (below_drew _), hob2.out, (hbl.out.alloc (by have := hbl.out.size; omega) _).drew⟩
/-- a search of the document, begun -/
def RSrch (es : List Ed) (n f t : Nat) (ws : List P2) (aw : Option Addr) (w : World) (e : Ending) (w' : World) : Prop := ∃ rb R C, e = .returned (.pointer (some ⟨rb, 0, none⟩)) ∧ RObj n t es hZ ws (sBegin es n f t ws) rb R C w' ∧ (∀ j, R j → w.heap.size ≤ j) ∧ Below w.heap.size w w' ∧ (∀ j, C j → (w.heap.size ≤ j ∧ j < w'.heap.size) ∨ ∃ o, aw = some ⟨j, o, none⟩) ∧ ∀ j, R j → ¬ C j
theorem rnew_z (n f t el : Nat) (a : Option Addr) (cap : Nat) (es : List Ed) (hel : es.length = el) (ah : Option Addr) (ch : Nat) (aw : Option Addr) (m cw : Nat) (ws : List P2) (hm : ws.length = m) (B0 : Nat) (w : World) (hB0 : B0 ≤ w.heap.size) (hE : Own encE 3 111 w B0 (.slice a el cap) es) (hH : Own encI 1 3 w B0 (.slice ah n ch) (LI n hZ)) (hW : Row encP 2 w B0 aw ws) (hn : 1 ≤ n ∧ n ≤ 64) (h0 : lookErr (n : Int) es [(f : Int), (t : Int)] = 0) (h1 : wsErr ws = 0) :
    Calls Tryz.prog 47 #[.agg #[.int .i64 (n : Int), .slice a el cap], .int .i64 (f : Int), .int .i64 (t : Int), .slice ah n ch, .slice aw m cw] w fun e w' => ∃ rb R C, e = .returned (.pointer (some ⟨rb, 0, none⟩)) ∧ RObj n t es hZ ws (sBegin es n f t ws) rb R C w' ∧ (∀ j, R j → w.heap.size ≤ j) ∧ Below w.heap.size w w' ∧ (∀ j, C j → (B0 ≤ j ∧ j < w.heap.size) ∨ ∃ o, aw = some ⟨j, o, none⟩) ∧ ∀ j, C j → j < w.heap.size := by
  subst hel
  subst hm
  obtain ⟨g1, g2⟩ := look_ok h0
  obtain ⟨g3, g4⟩ := posErr_ok g1
  obtain ⟨n1, n2, n3, n4⟩ := netErr_ok g3
  have hfl := look_in h0
  obtain ⟨b1, b2, b3⟩ := wsErr_ok h1
  obtain ⟨a2, c2, e2, hrE, -, -⟩ := hE.row lenE
  cases e2
  have hbE := hE.block_lt
  have hbH := hH.block_lt
  have hrH := own_row hH
  refine (rnew_any n f t ch ws.length cw es.length cap a ah aw es hZ ws w w.heap.size (Nat.le_refl _) hrE hrH (hW.mono hB0) hn (by omega) (by omega) (fun u _ => by simp [hZ]) b3 ⟨rfl, b1, b2⟩ ⟨fun e he => n4 e he, g4, rfl, n3⟩).mono ?_
  intro e w' hN
  obtain ⟨rb, s', R, k1, k2, k3, k4, k5⟩ := rnew_obj rfl rfl hN
  rw [sBegin_is k2] at k3
  refine ⟨rb, R, _, k1, k3, k4, k5, fun j hj => ?_, fun j hj => ?_⟩
  · rcases hj with ⟨_, o, e⟩ | ⟨o, e⟩ | ⟨o, e⟩
    · exact .inl (hbE j (by rw [e]; rfl))
    · exact .inl (hbH j (by rw [e]; rfl))
    · exact .inr ⟨o, e⟩
  · rcases hj with ⟨_, o, e⟩ | ⟨o, e⟩ | ⟨o, e⟩
    · exact (hbE j (by rw [e]; rfl)).2
    · exact (hbH j (by rw [e]; rfl)).2
    · obtain ⟨b, o2, e2, hb, _⟩ := hW 0 (by omega)
      rw [e] at e2
      cases e2
      omega
end Go.Proofs.YtccailcjclbhlaaGreat
/-! The document's service: its search, and Ask. Conditions: at most 1048576 weights. -/
namespace Go.Proofs.YtccailcjclbhlaaGreat
open Go.RowKit
set_option linter.unusedSimpArgs false
set_option linter.unusedVariables false
set_option maxRecDepth 100000 in
set_option maxHeartbeats 4000000 in
theorem rsearch_ok {W H : Int} {cs : List Int} {rvb : Nat} {w : World} (hG : Gd W H cs rvb w) (h0 : gridErr W H cs = 0) (f t : Nat) (aw : Option Addr) (m cw : Nat) (ws : List P2) (hm : ws.length = m) (hW : Row encP 2 w w.heap.size aw ws) (hlk : lookErr (cs.length : Int) (gridNet W H cs cs.length) [(f : Int), (t : Int)] = 0) (h1 : wsErr ws = 0) (hn : 1 ≤ cs.length ∧ cs.length ≤ 64) :
    Calls Tryz.prog 30 #[.pointer (some ⟨rvb, 0, none⟩), .int .i64 (f : Int), .int .i64 (t : Int), .slice aw m cw] w (RSrch (gridNet W H cs cs.length) cs.length f t ws aw w) := by
  obtain ⟨ga, gc, c0, c1, c2, hr⟩ := hG
  have z0 := cell_lt c0
  simp only at z0
  obtain ⟨b1, b2, b3, b4, hcl, hcs⟩ := gridErr_ok h0
  have hl := gridNet_len W H cs cs.length
  obtain ⟨n, hnn⟩ : ∃ n, n = cs.length := ⟨_, rfl⟩
  obtain ⟨es0, hes⟩ : ∃ es0, es0 = gridNet W H cs cs.length := ⟨_, rfl⟩
  rw [← hes] at hlk hl ⊢
  rw [← hnn] at hlk hn c2 hl ⊢
  have hmk := fun w => run_zeros w n (by omega)
  have hO := hide (fun (w' : World) (hb : Below w.heap.size w w') => ofgrid_ok W H ga gc cs w' w.heap.size hb.size (hr.below hb (Nat.le_refl _)) h0)
  rw [← hes, ← hcl, ← hnn] at hO
  obtain ⟨el, hel⟩ : ∃ el, el = es0.length := ⟨_, rfl⟩
  have hNew := hide (fun (w1 : World) (a : Option Addr) (cap : Nat) (ah : Option Addr) (ch : Nat) (hb : Below w.heap.size w w1) hE hH => rnew_z n f t el a cap es0 hel.symm ah ch aw m cw ws hm w.heap.size w1 hb.size hE hH (hW.below hb (Nat.le_refl _)) hn hlk h1)
  have hwC := hide (show ∀ j o, aw = some ⟨j, o, none⟩ → j < w.heap.size from fun j o e => by
    obtain ⟨c1, c2, _⟩ := wsErr_ok h1
    obtain ⟨b, o2, e2, hb, _⟩ := hW 0 (by omega)
    rw [e] at e2
    cases e2
    exact hb)
  replace hel := hide hel
  replace hes := hide hes
  replace hnn := hide hnn
  clear hr h0 hcs hcl b1 b2 b3 b4 hW hlk h1 hm
  unfold RSrch
  go_enter Tryz.func30, Tryz.ntmps30
  go_wp2_with fail
  refine (hO.out _ (by exact bel)).mono ?_
  rintro e w1 ⟨v1, rfl, own, hb⟩
  obtain ⟨a1, c1', rfl⟩ := own.shape hel.out.symm
  have hown := hide own
  clear own hO
  go_upto_region 2 with fail
  obtain ⟨w2, hw2⟩ : ∃ w2, w2 = w1.alloc (.cells #[.int .i64 (n : Int), .slice a1 el c1'] 77) := ⟨_, rfl⟩
  obtain ⟨by', hby⟩ : ∃ by', by' = w1.heap.size := ⟨_, rfl⟩
  have hb12 : Below w1.heap.size w1 w2 := by rw [hw2]; exact (Below.refl _ _).alloc (Nat.le_refl _) _
  have y0 : w2.cell? ⟨by', 0, none⟩ = some (.int .i64 (n : Int)) := by rw [hw2, hby]; simp [go_sem]
  have y1 : w2.cell? ⟨by', 1, none⟩ = some (.slice a1 el c1') := by rw [hw2, hby]; simp [go_sem]
  have hown2 := hide (hown.out.stays hb12)
  have hb3 := hide (hb.trans (hb12.mono hb.size))
  have zy : by' < w2.heap.size := cell_lt y0
  have key := hide (show ∀ w', Below w2.heap.size w2 w' → (Below w2.heap.size w2 w' ∧ w'.cell? ⟨by', 0, none⟩ = some (.int .i64 (n : Int)) ∧ w'.cell? ⟨by', 1, none⟩ = some (.slice a1 el c1')) from
    fun w' hb => ⟨hb, cu_below hb y0 zy, cu_below hb y1 zy⟩)
  simp only [← hw2]
  simp only [← hby]
  replace hw2 := hide hw2
  replace hby := hide hby
  clear hb12 hown y0 y1 c0 c1 c2 hb
  go_region_held3 (fun w' => Below w2.heap.size w2 w' ∧ w'.cell? ⟨by', 0, none⟩ = some (.int .i64 (n : Int)) ∧ w'.cell? ⟨by', 1, none⟩ = some (.slice a1 el c1'))
    (first | exact key.out _ (below_drew _) | exact key.out _ (by assumption) | exact key.out _ (up_alloc_self (below_drew _)) | exact key.out _ (up_alloc_self (And.left (by assumption))) | exact key.out _ (up_alloc_self (by assumption)))
    (first | (go_at_call 47; have hb4 := (‹_ ∧ _› : _ ∧ _).1; refine (hNew.out _ a1 c1' _ n (hb3.out.trans (hb4.mono hb3.out.size)) (hown2.out.stays hb4) (own_zeros _ _ n (by have := hb3.out.size; have := hb4.size; (try simp at *); omega) (by omega))).mono ?_; rintro e w4 ⟨rb, R, C, rfl, hO, hR, hb5, hC, hC2⟩; have hb6 := below_step hb4 hb5))
  all_goals
    have hfin := hide (hb3.out.trans (hb6.mono hb3.out.size))
    have hR2 := hide (fun j hj => Nat.le_trans (hb3.out.trans (hb4.mono hb3.out.size)).size (hR j hj))
    have hC3 := hide (show ∀ j, C j → (w.heap.size ≤ j ∧ j < w4.heap.size) ∨ ∃ o, aw = some ⟨j, o, none⟩ from fun j hj => (hC j hj).elim (fun q => .inl ⟨q.1, Nat.lt_of_lt_of_le q.2 hb5.size⟩) .inr)
    have hd := hide (show ∀ j, R j → ¬ C j from fun j h1 h2 => by have := hR j h1; have := hC2 j h2; omega)
    replace hO := hide hO
    clear hR hC hC2 hb5 hb6 hb4
    go_wp2
    go_ret
    exact ⟨rb, R, C, rfl, hO.out, hR2.out, hfin.out, hC3.out, hd.out⟩
section
variable {σ : Sv} {rvb : Nat} {P : Nat → Prop} {w : World}
set_option maxRecDepth 100000 in
set_option maxHeartbeats 4000000 in
theorem rask_bad (hP : RSv σ rvb P w) (f t : Int) (aw : Option Addr) (m cw : Nat) (ws : List P2) (hm : ws.length = m) (B : Nat) (hB : B ≤ w.heap.size) (hW : Row encP 2 w B aw ws) (h0 : askErr σ f t ws ≠ 0) :
    Calls Tryz.prog 13 #[.pointer (some ⟨rvb, 0, none⟩), .int .i64 f, .int .i64 t, .slice aw m cw] w fun e w' => e = .returned (.tuple #[.int .i64 0, .int .i64 (askErr σ f t ws)]) ∧ Below w.heap.size w w' := by
  have hn := hP.1.n
  obtain ⟨hok, -, ga, gc, xs, W, N, hX, -⟩ := hP
  have hO := hide (fun (w' : World) (hb : Below w.heap.size w w') => ofgrid_ok σ.W σ.H ga gc σ.cs w' w.heap.size hb.size (hX.row.below hb (Nat.le_refl _)) hok.g)
  have c0 := hX.c0
  have c1 := hX.c1
  have c2 := hX.c2
  have z0 : rvb < w.heap.size := cell_lt c0
  have hl := gridNet_len σ.W σ.H σ.cs σ.cs.length
  rw [← hn.2.2] at hO
  obtain ⟨es0, hes⟩ : ∃ es0, es0 = gridNet σ.W σ.H σ.cs σ.cs.length := ⟨_, rfl⟩
  have hask : askErr σ f t ws = if lookErr (σ.cs.length : Int) es0 [f, t] ≠ 0 then lookErr (σ.cs.length : Int) es0 [f, t] else wsErr ws := by rw [hes]; rfl
  rw [← hes] at hO hl
  obtain ⟨n, hnn⟩ : ∃ n, n = σ.cs.length := ⟨_, rfl⟩
  rw [← hnn] at hO c2 hn hl hask
  obtain ⟨el, hel⟩ : ∃ el, el = es0.length := ⟨_, rfl⟩
  rw [← hel] at hl
  have hWt := hide (fun (w' : World) (hb : Below w.heap.size w w') => raweights_any aw m cw ws hm w' B (Nat.le_trans hB hb.size) (hW.below hb hB))
  have hL := hide (fun (b cap : Nat) (a : Option Addr) (w : World) (hE : Row encE 3 w w.heap.size a es0) (hP : Row encI 1 w w.heap.size (some ⟨b, 0, none⟩) [f, t]) => rlook_any (n : Int) a cap es0 (some ⟨b, 0, none⟩) 2 2 [f, t] rfl w w.heap.size (Nat.le_refl _) hE hP (by omega) (by omega))
  rw [← hel] at hL
  by_cases h1 : lookErr (n : Int) es0 [f, t] = 0
  · rw [if_neg (by simp [h1])] at hask
    rw [h1] at hL
    rw [hask] at h0 ⊢
    obtain ⟨er, her⟩ : ∃ er, er = wsErr ws := ⟨_, rfl⟩
    rw [← her] at h0 hWt ⊢
    have q0 : (er != 0) = true := by simp [h0]
    replace hel := hide hel
    replace hes := hide hes
    replace hnn := hide hnn
    replace her := hide her
    replace hm := hide hm
    clear hX hok h0 hask h1 hn hW
    go_enter Tryz.func13, Tryz.ntmps13
    go_wp2_with fail
    refine (hO.out _ (by exact bel)).mono ?_
    rintro e w1 ⟨v1, rfl, own, hb⟩
    obtain ⟨a1, c1', rfl⟩ := own.shape hel.out.symm
    obtain ⟨a2, c2', e2, hrow, -, -⟩ := own.row lenE
    rw [← hel.out] at e2
    cases e2
    have hrow2 := hide (fun (w' : World) (hb : Below w1.heap.size w1 w') => (hrow.below hb (Nat.le_refl _)).mono hb.size)
    have hb2 := hide hb
    have hz1 := hb.size
    clear own hrow hb hO c0 c1 c2
    go_wp2_with fail
    refine Calls.mono (hL.out _ _ _ _ (hrow2.out _ (by exact bel)) (row2 (by simp [go_sem]) (by simp [go_sem]))) ?_
    rintro e w2 ⟨rfl, hb3⟩
    have hb4 := hide (hb2.out.trans (((bel : Below w1.heap.size w1 _).trans (hb3.mono (by simp; omega))).mono hz1))
    clear hb3
    go_wp2_with fail
    refine (hWt.out _ hb4.out).mono ?_
    rintro e w3 ⟨rfl, hb5⟩
    have hb6 := hide (hb4.out.trans (hb5.mono hb4.out.size))
    clear hb5
    go_wp2
    refine bodyPost_ret (v := .tuple #[.int .i64 0, .int .i64 er]) (by simp [results, Tryz.results13, go_sem]) rfl ⟨rfl, hb6.out⟩
  · rw [if_pos h1] at hask
    rw [hask] at h0 ⊢
    obtain ⟨er, her⟩ : ∃ er, er = lookErr (n : Int) es0 [f, t] := ⟨_, rfl⟩
    rw [← her] at h0 hL ⊢
    have q0 : (er != 0) = true := by simp [h0]
    replace hel := hide hel
    replace hes := hide hes
    replace hnn := hide hnn
    replace her := hide her
    replace hm := hide hm
    clear hX hok h0 hask h1 hn hW
    go_enter Tryz.func13, Tryz.ntmps13
    go_wp2_with fail
    refine (hO.out _ (by exact bel)).mono ?_
    rintro e w1 ⟨v1, rfl, own, hb⟩
    obtain ⟨a1, c1', rfl⟩ := own.shape hel.out.symm
    obtain ⟨a2, c2', e2, hrow, -, -⟩ := own.row lenE
    rw [← hel.out] at e2
    cases e2
    have hrow2 := hide (fun (w' : World) (hb : Below w1.heap.size w1 w') => (hrow.below hb (Nat.le_refl _)).mono hb.size)
    have hb2 := hide hb
    have hz1 := hb.size
    clear own hrow hb hO c0 c1 c2
    go_wp2_with fail
    refine Calls.mono (hL.out _ _ _ _ (hrow2.out _ (by exact bel)) (row2 (by simp [go_sem]) (by simp [go_sem]))) ?_
    rintro e w2 ⟨rfl, hb3⟩
    have hb4 := hide (hb2.out.trans (((bel : Below w1.heap.size w1 _).trans (hb3.mono (by simp; omega))).mono hz1))
    clear hb3
    go_wp2
    refine bodyPost_ret (v := .tuple #[.int .i64 0, .int .i64 er]) (by simp [results, Tryz.results13, go_sem]) rfl ⟨rfl, hb4.out⟩
/-- a request that the document has taken up -/
theorem RSv.put {w9 w' : World} (hP : RSv σ rvb P w) (hb : Below w.heap.size w w9) {k f t : Nat} (hk : k < 6) (hf : f < σ.cs.length) (ht : t < σ.cs.length) {ws : List P2} (h1 : wsErr ws = 0) {aw : Option Addr} {m cw rb : Nat} {R C : Nat → Prop} (hm : ws.length = m) (own : Own encP 2 56 w9 w.heap.size (.slice aw m cw) ws) (hO : RObj σ.cs.length t σ.es hZ ws (sBegin σ.es σ.cs.length f t ws) rb R C w9) (hR : ∀ j, R j → w.heap.size ≤ j) (hC : ∀ j, C j → w.heap.size ≤ j ∧ j < w9.heap.size) (hRC : ∀ j, R j → ¬ C j) (hRo : ∀ j, R j → (Value.slice aw m cw).ownBlock ≠ some j)
    (hw' : w' = put6 w9 rvb (3 + k * 6) ⟨true, (f : Int), (t : Int), aw, m, cw, some ⟨rb, 0, none⟩, none, 0, 0⟩) : RLeft (σ.put k f t ws) rvb P w w' := by
  subst hm
  obtain ⟨hok, hlt, ga, gc, xs, W, N, hX, hin⟩ := hP
  have hX9 := hX.stays hb
  have hz := hb.size
  have hs0 : rvb < w.heap.size := cell_lt hX.c0
  obtain ⟨c0, c1, c2, c3, c4, c5⟩ := hX9.six hk
  obtain ⟨p1, p2, p3, kp⟩ := put6_ok (⟨true, (f : Int), (t : Int), aw, ws.length, cw, some ⟨rb, 0, none⟩, none, 0, 0⟩ : AV) c0 c1 c2 c3 c4 c5
  rw [← hw'] at p1 p2 p3 kp
  have hzw := kp.size
  have hOb := own.block_lt
  obtain ⟨a2, c2, e2, hrow, _⟩ := own.row lenP
  cases e2
  have hQ : RQc σ.es σ.cs.length ⟨f, t, ws, sBegin σ.es σ.cs.length f t ws, none⟩ ⟨true, (f : Int), (t : Int), aw, ws.length, cw, some ⟨rb, 0, none⟩, none, 0, 0⟩ rb R C R (fun j => C j ∨ (Value.slice aw ws.length cw).ownBlock = some j) w' :=
    ⟨rfl, rfl, rfl, rfl, rfl, hO.keep kp (fun j hj e => hj.elim (fun h => by have := hR j h; omega) (fun h => by have := (hC j h).1; omega)), (row_keep hrow kp (fun b o e e2 => by have := hOb b (by rw [e]; rfl); omega)).mono kp.size, rfl, fun j h => h, fun j h => .inl h, fun j o e => .inr (by rw [show aw = some ⟨j, o, none⟩ from e]; rfl)⟩
  have kpw : Keep (fun j => j = rvb) w w' := (Keep.new hb).trans kp
  have hslot := hX.slot hk kpw (fun j e => .inl e) (fun o ho v hv => p2 o (by omega) v (cu_below hb hv (cell_lt hv))) p1 (fun o => p3 o (fu_below hb (hX.fz o) hs0)) (some ⟨f, t, ws, sBegin σ.es σ.cs.length f t ws, none⟩) (ef := fun _ => σ.es) σ.es (W' := R) (N' := fun j => C j ∨ (Value.slice aw ws.length cw).ownBlock = some j) (fun j h => .inr ⟨hR j h, by have := hO.lt h; omega⟩) (fun j h => .inr (.inr ?_)) (fun j h h2 => ?_) (.inr ⟨_, rfl, rb, R, C, hQ⟩)
  · rw [show upz (fun _ => σ.es) k σ.es = (fun _ => σ.es) from upz_self (fun _ => σ.es) k] at hslot
    refine ⟨⟨⟨hok.g, hok.u, fun i q' hi hq' => ?_⟩, fun j hj => ?_, ga, gc, _, _, _, hslot, fun i j q => ?_⟩, kpw.mono (fun j _ e => by rw [e]; exact hin 6 rvb (.inl hX.own))⟩
    · by_cases e : i = k
      · subst e
        rw [show (σ.put i f t ws).sl = upz σ.sl i (some (newQ σ.es σ.cs.length f t ws)) from rfl, upz_same] at hq'
        cases hq'
        exact ⟨hf, ht, h1, fun r h => by cases h⟩
      · rw [show (σ.put k f t ws).sl = upz σ.sl k (some (newQ σ.es σ.cs.length f t ws)) from rfl, upz_other _ _ e] at hq'
        exact hok.q i q' hi hq'
    · rcases hj with hj | hj
      · have := hlt j hj; omega
      · exact hj.2
    · by_cases e : i = k
      · subst e
        rw [upz_same, upz_same] at q
        rcases q with q | q | q
        · exact .inr ⟨hR j q, by have := hO.lt q; omega⟩
        · exact .inr ⟨(hC j q).1, by have := (hC j q).2; omega⟩
        · exact .inr ⟨(hOb j q).1, by have := (hOb j q).2; omega⟩
      · rw [upz_other _ _ e, upz_other _ _ e] at q
        exact .inl (hin i j q)
  · rcases h with h | h
    · exact ⟨(hC j h).1, by have := (hC j h).2; omega⟩
    · exact ⟨(hOb j h).1, by have := (hOb j h).2; omega⟩
  · rcases h2 with h2 | h2
    · exact hRC j h h2
    · exact hRo j h h2
theorem idx_free {σ : Sv} {xs : Nat → AV} {k : Nat} {ef : Nat → List Ed} {rvb gc : Nat} {ga : Option Addr} {W N : Nat → Nat → Prop} {w : World} (hX : RSx σ ef rvb ga gc xs W N w) (hk : k < 6) : (xs k).is = (σ.sl k).isSome := by
  cases hq : σ.sl k with
  | none => rw [hX.noneAt hk hq]; rfl
  | some q => obtain ⟨rb, R, C, hQ⟩ := hX.someAt hk hq; rw [hQ.a0]; rfl
set_option maxRecDepth 100000 in
set_option maxHeartbeats 8000000 in
theorem rask_ok (hP : RSv σ rvb P w) (f t : Nat) (aw : Option Addr) (m cw : Nat) (ws : List P2) (hm : ws.length = m) (hl8 : m ≤ 1048576) (B : Nat) (hB : B ≤ w.heap.size) (hW : Row encP 2 w B aw ws) (h0 : askErr σ (f : Int) (t : Int) ws = 0) (hf : f < σ.cs.length) (ht : t < σ.cs.length) (hlk : lookErr (σ.cs.length : Int) σ.es [(f : Int), (t : Int)] = 0) (hws : wsErr ws = 0) :
    Calls Tryz.prog 13 #[.pointer (some ⟨rvb, 0, none⟩), .int .i64 (f : Int), .int .i64 (t : Int), .slice aw m cw] w fun e w' => ∃ n er σ', e = .returned (.tuple #[.int .i64 n, .int .i64 er]) ∧ AskIs σ (f : Int) (t : Int) ws n er σ' ∧ RLeft σ' rvb P w w' := by
  have hn := hP.1.n
  have hS := hide (fun (w' : World) (hb : Below w.heap.size w w') => RLeft.same hP hb)
  have hPut := hide (fun (w9 w' : World) (k : Nat) (aw : Option Addr) (cw rb : Nat) (R C : Nat → Prop) hb hk own hO hR hC hRC hRo hw' => RSv.put (w9 := w9) (w' := w') (k := k) (aw := aw) (m := m) (cw := cw) (rb := rb) (R := R) (C := C) hP hb hk hf ht hws hm own hO hR hC hRC hRo hw')
  have hSr := hide (fun (w' : World) (a : Option Addr) (c : Nat) (hb : Below w.heap.size w w') (hr : Row encP 2 w' w'.heap.size a ws) => rsearch_ok (rvb := rvb) (by obtain ⟨_, _, ga, gc, xs, W, N, hX, _⟩ := hP; exact (hX.stays hb).gd) hP.1.g f t a m c ws hm hr hlk hws ⟨hn.1, hn.2.1⟩)
  obtain ⟨hok, -, ga, gc, xs, W, N, hX, -⟩ := hP
  have hO := hide (fun (w' : World) (hb : Below w.heap.size w w') => ofgrid_ok σ.W σ.H ga gc σ.cs w' w.heap.size hb.size (hX.row.below hb (Nat.le_refl _)) hok.g)
  have hSix := hide (fun (w' : World) (hb : Below w.heap.size w w') (k : Nat) (hk : k < 6) => (hX.stays hb).six hk)
  have hIs := hide (fun (k : Nat) (hk : k < 6) => idx_free hX hk)
  have hFz := hide (fun (w' : World) (hb : Below w.heap.size w w') (o : Nat) => (hX.stays hb).fz o)
  have c0 := hX.c0
  have c1 := hX.c1
  have c2 := hX.c2
  have z0 : rvb < w.heap.size := cell_lt c0
  have hl := gridNet_len σ.W σ.H σ.cs σ.cs.length
  rw [← hn.2.2] at hO
  obtain ⟨es0, hes⟩ : ∃ es0, es0 = gridNet σ.W σ.H σ.cs σ.cs.length := ⟨_, rfl⟩
  have hlk2 : lookErr (σ.cs.length : Int) es0 [(f : Int), (t : Int)] = 0 := by rw [hes]; exact hlk
  rw [← hes] at hO hl
  obtain ⟨n, hnn⟩ : ∃ n, n = σ.cs.length := ⟨_, rfl⟩
  rw [← hnn] at hO c2 hn hl hlk2
  obtain ⟨el, hel⟩ : ∃ el, el = es0.length := ⟨_, rfl⟩
  rw [← hel] at hl
  have hWt := hide (fun (w' : World) (hb : Below w.heap.size w w') => raweights_any aw m cw ws hm w' B (Nat.le_trans hB hb.size) (hW.below hb hB))
  have hCl := hide (fun (w' : World) (hb : Below w.heap.size w w') => cloneP aw cw m ws w' B (Nat.le_trans hB hb.size) hm (hW.below hb hB) hl8)
  have hL := hide (fun (b cap : Nat) (a : Option Addr) (w : World) (hE : Row encE 3 w w.heap.size a es0) (hP : Row encI 1 w w.heap.size (some ⟨b, 0, none⟩) [(f : Int), (t : Int)]) => rlook_any (n : Int) a cap es0 (some ⟨b, 0, none⟩) 2 2 [(f : Int), (t : Int)] rfl w w.heap.size (Nat.le_refl _) hE hP (by omega) (by omega))
  rw [← hel, hlk2] at hL
  rw [hws] at hWt
  replace hel := hide hel
  replace hes := hide hes
  replace hnn := hide hnn
  replace hm := hide hm
  replace h0 := hide h0
  clear hX hok hn hW hlk hlk2 hws hf ht hl
  go_enter Tryz.func13, Tryz.ntmps13
  go_wp2_with fail
  refine (hO.out _ (by exact bel)).mono ?_
  rintro e w1 ⟨v1, rfl, own, hb⟩
  obtain ⟨a1, c1', rfl⟩ := own.shape hel.out.symm
  obtain ⟨a2, c2', e2, hrow, -, -⟩ := own.row lenE
  rw [← hel.out] at e2
  cases e2
  have hrow2 := hide (fun (w' : World) (hb : Below w1.heap.size w1 w') => (hrow.below hb (Nat.le_refl _)).mono hb.size)
  have hb2 := hide hb
  have hz1 := hb.size
  clear own hrow hb hO c0 c1 c2
  go_wp2_with fail
  refine Calls.mono (hL.out _ _ _ _ (hrow2.out _ (by exact bel)) (row2 (by simp [go_sem]) (by simp [go_sem]))) ?_
  rintro e w2 ⟨rfl, hb3⟩
  have hb4 := hide (hb2.out.trans (((bel : Below w1.heap.size w1 _).trans (hb3.mono (by simp; omega))).mono hz1))
  clear hb3 hb2 hrow2 hL hz1
  go_wp2_with fail
  refine (hWt.out _ hb4.out).mono ?_
  rintro e w3 ⟨rfl, hb5⟩
  have hb6 := hide (hb4.out.trans (hb5.mono hb4.out.size))
  clear hb5 hb4 hWt
  go_wp2_with fail
  go_loopw [32] (fun i wr => ∃ k : Nat, k ≤ 6 ∧ i = .int .i64 (k : Int) ∧ Hid (∀ j, j < k → σ.sl j ≠ none) ∧ Below w3.heap.size w3 wr) (fun i _ => 6 - (intOf i).toNat)
  case atStart => exact ⟨0, by omega, rfl, hide (fun j h => by omega), Below.refl _ _⟩
  case round =>
    obtain ⟨k, hk6, rfl, hno, hbr⟩ := hrel
    have hb7 := hide (hb6.out.trans (hbr.mono hb6.out.size))
    by_cases hk : k < 6
    · have i1 : (0 : Int) ≤ (k : Int) ∧ (k : Int) < 6 := by omega
      obtain ⟨s0, s1, s2, s3, s4, s5⟩ := hSix.out wr hb7.out k hk
      have zr : rvb < wr.heap.size := cell_lt s0
      have his := hIs.out k hk
      cases hq : σ.sl k with
      | none =>
        rw [hq] at his
        rw [his] at s0
        replace s0 : wr.cell? ⟨rvb, 3 + k * 6, none⟩ = some (.bool false) := s0
        have hA := hide (show AskIs σ (f : Int) (t : Int) ws (k : Int) 0 (σ.put k f t ws) from .inr (.inr ⟨h0.out, k, ⟨hk, hq, hno.out⟩, rfl, rfl, rfl⟩))
        replace hq := hide hq
        replace his := hide his
        obtain ⟨v1, hv1⟩ : ∃ v, v = (xs k).f := ⟨_, rfl⟩
        obtain ⟨v2, hv2⟩ : ∃ v, v = (xs k).t := ⟨_, rfl⟩
        obtain ⟨v3, hv3⟩ : ∃ v, v = (xs k).aw := ⟨_, rfl⟩
        obtain ⟨n3, hn3⟩ : ∃ v, v = (xs k).am := ⟨_, rfl⟩
        obtain ⟨m3, hm3⟩ : ∃ v, v = (xs k).ac := ⟨_, rfl⟩
        obtain ⟨v4, hv4⟩ : ∃ v, v = (xs k).p := ⟨_, rfl⟩
        obtain ⟨v5, hv5⟩ : ∃ v, v = (xs k).ka := ⟨_, rfl⟩
        obtain ⟨n5, hn5⟩ : ∃ v, v = (xs k).km := ⟨_, rfl⟩
        obtain ⟨m5, hm5⟩ : ∃ v, v = (xs k).kc := ⟨_, rfl⟩
        rw [← hv1] at s1
        rw [← hv2] at s2
        rw [← hv3, ← hn3, ← hm3] at s3
        rw [← hv4] at s4
        rw [← hv5, ← hn5, ← hm5] at s5
        clear hv1 hv2 hv3 hn3 hm3 hv4 hv5 hn5 hm5
        have hfz := fun o => hFz.out wr hb7.out o
        have key0 := hide (show ∀ w', Below wr.heap.size wr w' → (fun w' => Below wr.heap.size wr w' ∧ w'.cell? ⟨rvb, 3 + k * 6, none⟩ = some (.bool false) ∧ w'.cell? ⟨rvb, 3 + k * 6 + 1, none⟩ = some (.int .i64 v1) ∧ w'.cell? ⟨rvb, 3 + k * 6 + 2, none⟩ = some (.int .i64 v2) ∧ w'.cell? ⟨rvb, 3 + k * 6 + 3, none⟩ = some (.slice v3 n3 m3) ∧ w'.cell? ⟨rvb, 3 + k * 6 + 4, none⟩ = some (.pointer v4) ∧ w'.cell? ⟨rvb, 3 + k * 6 + 5, none⟩ = some (.slice v5 n5 m5) ∧ w'.frozen? ⟨rvb, 3 + k * 6, none⟩ = false ∧ w'.frozen? ⟨rvb, 3 + k * 6 + 1, none⟩ = false ∧ w'.frozen? ⟨rvb, 3 + k * 6 + 2, none⟩ = false ∧ w'.frozen? ⟨rvb, 3 + k * 6 + 3, none⟩ = false ∧ w'.frozen? ⟨rvb, 3 + k * 6 + 4, none⟩ = false ∧ w'.frozen? ⟨rvb, 3 + k * 6 + 5, none⟩ = false) w' from fun w' hb => ⟨hb, cu_below hb s0 zr, cu_below hb s1 zr, cu_below hb s2 zr, cu_below hb s3 zr, cu_below hb s4 zr, cu_below hb s5 zr, fu_below hb (hfz _) zr, fu_below hb (hfz _) zr, fu_below hb (hfz _) zr, fu_below hb (hfz _) zr, fu_below hb (hfz _) zr, fu_below hb (hfz _) zr⟩)
        clear hfz
        go_wp2_with fail
        refine wp_region_end (S := (fun w' => Below wr.heap.size wr w' ∧ w'.cell? ⟨rvb, 3 + k * 6, none⟩ = some (.bool false) ∧ w'.cell? ⟨rvb, 3 + k * 6 + 1, none⟩ = some (.int .i64 v1) ∧ w'.cell? ⟨rvb, 3 + k * 6 + 2, none⟩ = some (.int .i64 v2) ∧ w'.cell? ⟨rvb, 3 + k * 6 + 3, none⟩ = some (.slice v3 n3 m3) ∧ w'.cell? ⟨rvb, 3 + k * 6 + 4, none⟩ = some (.pointer v4) ∧ w'.cell? ⟨rvb, 3 + k * 6 + 5, none⟩ = some (.slice v5 n5 m5) ∧ w'.frozen? ⟨rvb, 3 + k * 6, none⟩ = false ∧ w'.frozen? ⟨rvb, 3 + k * 6 + 1, none⟩ = false ∧ w'.frozen? ⟨rvb, 3 + k * 6 + 2, none⟩ = false ∧ w'.frozen? ⟨rvb, 3 + k * 6 + 3, none⟩ = false ∧ w'.frozen? ⟨rvb, 3 + k * 6 + 4, none⟩ = false ∧ w'.frozen? ⟨rvb, 3 + k * 6 + 5, none⟩ = false)) (t := 16) (by kernel_rfl) ?_ (fun hHeld hInv => ?_)
        · exact key0.out _ (below_drew _)
        replace hInv := hide hInv
        refine planE [0, 1, 2, 3, 4, 6, 7, 8, 9, 13, 14] ?_
        iterate 11
          refine PlanE.take (v := ?_) (List.getElem?_toArray.trans rfl) (by kernel_rfl) (fun _ _ _ h => h) (Or.inl ⟨by rfl, ?_⟩) hInv.out (by assumption) (fun hInv' => ?_)
          rotate_left
          · intro w hSw; (try dsimp only at hSw); go_simp; (try with_reducible rfl)
          replace hInv := hide hInv'; clear hInv'; try simp only [Act.put, List.setIfInBounds_toArray, List.set_cons_zero, List.set_cons_succ]
        refine wpAnyE_one (i := 5) (List.getElem?_toArray.trans rfl) (by kernel_rfl) (fun K hK => ?_) hInv.out
        (go_simp; refine (hCl.out _ (hb7.out.trans (hHeld.1.mono hb7.out.size))).mono ?_; rintro e wA ⟨aA, cA, rfl, ownA, hbA⟩; have hAB := hHeld.1)
        have hHeld := key0.out _ (below_step hHeld.1 hbA)
        refine hK.out _ _ (fun _ => hHeld) (fun hInv' => ?_)
        clear hK K; replace hInv := hide (hInv' (by decide)); clear hInv'; try simp only [Act.put, List.setIfInBounds_toArray, List.set_cons_zero, List.set_cons_succ]
        refine wpAnyE_one (i := 10) (List.getElem?_toArray.trans rfl) (by kernel_rfl) (fun K hK => ?_) hInv.out
        (go_simp; refine (hCl.out _ (hb7.out.trans (hHeld.1.mono hb7.out.size))).mono ?_; rintro e wB ⟨aB, cB, rfl, ownB, hbB⟩; have hBB := hHeld.1)
        have hHeld := key0.out _ (below_step hHeld.1 hbB)
        refine hK.out _ _ (fun _ => hHeld) (fun hInv' => ?_)
        clear hK K; replace hInv := hide (hInv' (by decide)); clear hInv'; try simp only [Act.put, List.setIfInBounds_toArray, List.set_cons_zero, List.set_cons_succ]
        refine wpAnyE_one (i := 11) (List.getElem?_toArray.trans rfl) (by kernel_rfl) (fun K hK => ?_) hInv.out
        (go_simp; refine (hSr.out _ aB cB (hb7.out.trans (hHeld.1.mono hb7.out.size)) (by obtain ⟨a2, c2, e2, hr, _⟩ := ownB.row lenP; rw [hm.out] at e2; cases e2; exact hr)).mono ?_; rintro e wS ⟨rb, R, C, rfl, hO, hR, hbS, hC, hRC⟩; have hSB := hHeld.1)
        have hHeld := key0.out _ (below_step hHeld.1 hbS)
        refine hK.out _ _ (fun _ => hHeld) (fun hInv' => ?_)
        clear hK K; replace hInv := hide (hInv' (by decide)); clear hInv'; try simp only [Act.put, List.setIfInBounds_toArray, List.set_cons_zero, List.set_cons_succ]
        refine planE [12, 15] ?_
        iterate 2
          refine PlanE.take (v := ?_) (List.getElem?_toArray.trans rfl) (by kernel_rfl) (fun _ _ _ h => h) (Or.inl ⟨by rfl, ?_⟩) hInv.out (by assumption) (fun hInv' => ?_)
          rotate_left
          · intro w hSw; (try dsimp only at hSw); go_simp; (try with_reducible rfl)
          replace hInv := hide hInv'; clear hInv'; try simp only [Act.put, List.setIfInBounds_toArray, List.set_cons_zero, List.set_cons_succ]
        refine wpAnyE_one (i := 16) (List.getElem?_toArray.trans rfl) (by kernel_rfl) (fun K hK => ?_) hInv.out
        (try dsimp only at hHeld); go_simp
        refine hK.out _ _ (fun h => absurd rfl h) (fun _ => ?_)
        clear hK K hInv; try simp only [Act.put, List.setIfInBounds_toArray, List.set_cons_zero, List.set_cons_succ]
        refine wpAnyE_done (by kernel_rfl) ?_ _
        have y1 := hbA.size
        have y2 := hbB.size
        have y3 := hbS.size
        have y0 := hb7.out.size
        have y4 : wr.drew.heap.size = wr.heap.size := rfl
        have hwS := hb7.out.trans ((below_step hSB hbS).mono y0)
        have hobA := ownA.block_lt
        have hobB := ownB.block_lt
        have hEnd := hide (hPut.out wS _ k aA cA rb R C hwS hk (((ownA.stays hbB).stays hbS).base_le (by omega)) hO (fun j hj => by have := hR j hj; omega) (fun j hj => by
          rcases hC j hj with q | ⟨o, q⟩
          · omega
          · have := hobB j (by rw [q]; rfl); omega) hRC (fun j hj e => by have := hR j hj; have := hobA j e; omega) rfl)
        clear ownA ownB hbA hbB hbS hO hR hC hRC hAB hBB hSB hHeld hobA hobB hwS key0
        go_wp2
        refine bodyPost_ret (v := .tuple #[.int .i64 (k : Int), .int .i64 0]) (by simp [results, Tryz.results13, go_sem]) rfl ⟨(k : Int), 0, _, rfl, hA.out, hEnd.out⟩
      | some q =>
        rw [hq] at his
        rw [his] at s0
        replace s0 : wr.cell? ⟨rvb, 3 + k * 6, none⟩ = some (.bool true) := s0
        have hno2 := hide (show ∀ j, j < k + 1 → σ.sl j ≠ none from fun j hj => by
          by_cases e : j = k
          · rw [e, hq]; simp
          · exact hno.out j (by omega))
        replace hq := hide hq
        replace his := hide his
        clear s1 s2 s3 s4 s5
        go_wp2
        go_roundw
        case rel => exact ⟨k + 1, by omega, by go_num, hno2, bel⟩
        case measure => simp [intOf]; omega
    · obtain rfl : k = 6 := by omega
      go_wp2
      refine bodyPost_ret (v := .tuple #[.int .i64 0, .int .i64 10]) (by simp [results, Tryz.results13, go_sem]) rfl ⟨0, 10, σ, rfl, .inr (.inl ⟨h0.out, hno.out, rfl, rfl, rfl⟩), hS.out _ hb7.out⟩
theorem rask_any (hP : RSv σ rvb P w) (f t : Int) (aw : Option Addr) (m cw : Nat) (ws : List P2) (hm : ws.length = m) (hl : m ≤ 1048576) (B : Nat) (hB : B ≤ w.heap.size) (hW : Row encP 2 w B aw ws) :
    Calls Tryz.prog 13 #[.pointer (some ⟨rvb, 0, none⟩), .int .i64 f, .int .i64 t, .slice aw m cw] w fun e w' => ∃ n er σ', e = .returned (.tuple #[.int .i64 n, .int .i64 er]) ∧ AskIs σ f t ws n er σ' ∧ RLeft σ' rvb P w w' := by
  by_cases h0 : askErr σ f t ws = 0
  · obtain ⟨f', t', rfl, rfl, h1, h2, h3, h4⟩ := ask_ok h0
    exact rask_ok hP f' t' aw m cw ws hm hl B hB hW h0 h1 h2 h3 h4
  · refine (rask_bad hP f t aw m cw ws hm B hB hW h0).mono ?_
    rintro e w' ⟨rfl, hb⟩
    exact ⟨0, _, σ, rfl, .inl ⟨h0, rfl, rfl, rfl⟩, RLeft.same hP hb⟩
end
end Go.Proofs.YtccailcjclbhlaaGreat
