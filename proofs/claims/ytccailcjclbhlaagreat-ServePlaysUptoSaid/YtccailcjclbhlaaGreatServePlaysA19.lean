/-
  A part of the proof of ServePlays: SvD SvU
-/
import Derived.Test.YtccailcjclbhlaaGreatServePlaysA17
import Derived.Test.YtccailcjclbhlaaGreatServePlaysA18
/-! serve's Edit, walked. No condition. -/
namespace Go.Proofs.YtccailcjclbhlaaGreat
open Go.RowKit
set_option linter.unusedSimpArgs false
set_option linter.unusedVariables false
/-- what holds while the requests are begun anew: k of them are -/
def EdI (σ : Sv) (a : Nat) (g : Int) (svb : Nat) (ga : Option Addr) (gc : Nat) (xs : Nat → Option Nat) (P : Nat → Prop) (w : World) (k : Nat) (wr : World) : Prop :=
  (∃ W N, PSx (σ.edK a g k) (efK σ a g k) svb ga gc xs W N wr ∧ ∀ i j, W i j ∨ N i j → grown P w wr j) ∧ Keep P w wr
section
variable {σ : Sv} {a : Nat} {g : Int} {svb : Nat} {ga : Option Addr} {gc : Nat} {xs : Nat → Option Nat} {P : Nat → Prop} {w wr : World} {k : Nat}
theorem edK_len (σ : Sv) (a : Nat) (g : Int) (k : Nat) : (σ.edK a g k).cs.length = σ.cs.length := List.length_set
theorem EdI.skip (h : EdI σ a g svb ga gc xs P w k wr) (hq : σ.sl k = none) : EdI σ a g svb ga gc xs P w (k + 1) wr := by
  obtain ⟨⟨W, N, h1, h2⟩, h3⟩ := h
  refine ⟨⟨W, N, ?_, h2⟩, h3⟩
  rw [edK_none hq]
  refine h1.ef' (fun i hi => ?_)
  by_cases e : i = k
  · subst e; exact .inr (by rw [edK_at]; exact hq)
  · left
    unfold efK
    by_cases q : i < k
    · have h2 : i < k + 1 := by omega
      simp [q, h2]
    · have h2 : ¬ i < k + 1 := by omega
      simp [q, h2]
theorem EdI.next {W N : Nat → Nat → Prop} (hX : PSx (σ.edK a g k) (efK σ a g k) svb ga gc xs W N wr) (hin : ∀ i j, W i j ∨ N i j → grown P w wr j) (hkp : Keep P w wr) (hk : k < 6) {q : Sq} (hq : σ.sl k = some q) {x sb cw sb2 : Nat} {aw : Option Addr} {rv rv2 : RV} {A C A2 C2 : Nat → Prop} (hx : xs k = some x) (hQ : PQc (efK σ a g k k) σ.cs.length q x sb cw aw rv A C (W k) (N k) wr) {w' : World} (kp : Keep (fun j => j = x) wr w')
    (x0 : w'.cell? ⟨x, 0, none⟩ = some (.pointer (some ⟨sb2, 0, none⟩))) (x1 : w'.cell? ⟨x, 1, none⟩ = some (.int .i64 (q.f : Int))) (x2 : w'.cell? ⟨x, 2, none⟩ = some (.int .i64 (q.t : Int))) (x3 : w'.cell? ⟨x, 3, none⟩ = some (.slice aw q.ws.length cw)) (x4 : w'.cell? ⟨x, 4, none⟩ = some (.int .i64 rv2.na)) (x5 : w'.cell? ⟨x, 5, none⟩ = some (.int .i64 rv2.nb)) (x6 : w'.cell? ⟨x, 6, none⟩ = some (.slice rv2.pa rv2.pm rv2.pc)) (x7 : w'.cell? ⟨x, 7, none⟩ = some (.int .i64 rv2.rc)) (x8 : w'.cell? ⟨x, 8, none⟩ = some (.int .i64 rv2.dn)) (x9 : w'.cell? ⟨x, 9, none⟩ = some (.bool (keptNow q).isSome)) (fz : ∀ o, w'.frozen? ⟨x, o, none⟩ = false)
    (hO : AObj σ.cs.length q.t (gridNet σ.W σ.H (σ.cs.set a g) σ.cs.length) hZ q.ws (sBegin (gridNet σ.W σ.H (σ.cs.set a g) σ.cs.length) σ.cs.length q.f q.t q.ws) sb2 A2 C2 w') (hA : ∀ j, A2 j ∨ C2 j → wr.heap.size ≤ j) (hC : ∀ j, C2 j → j < w'.heap.size) (hAC : ∀ j, A2 j → ¬ C2 j) (hk2 : KeptAt w' rv2 (keptNow q)) (hp : ∀ j, (Value.slice rv2.pa rv2.pm rv2.pc).ownBlock = some j → (N k j ∨ (wr.heap.size ≤ j ∧ j < w'.heap.size)) ∧ ¬ A2 j) : EdI σ a g svb ga gc xs P w (k + 1) w' := by
  have hl := edK_len σ a g k
  obtain ⟨W', N', h1, h2⟩ := PSx.again (q := q) hX hk hx (by rw [hl]; exact hQ) kp (es := gridNet σ.W σ.H (σ.cs.set a g) σ.cs.length) (q2 := again (gridNet σ.W σ.H (σ.cs.set a g) σ.cs.length) σ.cs.length q) rfl rfl rfl x0 x1 x2 x3 x4 x5 x6 x7 x8 x9 fz (by rw [hl]; exact hO) hA hC hAC hk2 hp
  refine ⟨⟨W', N', ?_, fun i j hj => ?_⟩, hkp.trans2 kp (fun j hj => ?_)⟩
  · rw [edK_some hq, efK_succ]
    exact h1
  · rcases h2 i j hj with h | h | h
    · rcases hin i j (.inl h) with h3 | h3
      · exact .inl h3
      · exact .inr ⟨h3.1, Nat.lt_of_lt_of_le h3.2 kp.size⟩
    · rcases hin i j (.inr h) with h3 | h3
      · exact .inl h3
      · exact .inr ⟨h3.1, Nat.lt_of_lt_of_le h3.2 kp.size⟩
    · exact .inr ⟨by have := hkp.size; omega, h.2⟩
  · subst hj
    rcases hin k j (.inl hQ.wx) with h3 | h3
    · exact .inl h3
    · exact .inr h3.1
theorem EdI.done (h : EdI σ a g svb ga gc xs P w 6 wr) (hok : SvOk σ) (hlt : ∀ j, P j → j < w.heap.size) (hg : 0 ≤ g ∧ g ≤ 9) (hp : ∀ i q, i < 6 → σ.sl i = some q → ∀ r ∈ q.s.told, r.path.length ≤ 64) : PLeft (σ.edK a g 6) svb P w wr := by
  obtain ⟨⟨W, N, h1, h2⟩, h3⟩ := h
  refine ⟨⟨edK_ok hok hg hp, fun j hj => ?_, ga, gc, xs, W, N, h1.ef' (fun i hi => .inl ?_), h2⟩, h3⟩
  · rcases hj with hj | hj
    · exact Nat.lt_of_lt_of_le (hlt j hj) h3.size
    · exact hj.2
  · rw [edK_es]; unfold efK; rw [if_pos hi]
theorem PSx.gdK {W N : Nat → Nat → Prop} {ef : Nat → List Ed} {T : Nat → Prop} {w' : World} (h : PSx σ ef svb ga gc xs W N w) (kp : Keep T w w') (hT : ∀ j, T j → W k j) (hk : k < 6) : Gd σ.W σ.H σ.cs svb w' := by
  have hs : ¬ T svb := fun e => absurd (h.lay.sep 6 k _ h.own (hT _ e)) (by omega)
  refine ⟨ga, gc, kp.cu h.c0 hs, kp.cu h.c1 hs, kp.cu h.c2 hs, (row_keep h.row kp (fun b o e e2 => ?_)).mono kp.size⟩
  exact absurd (h.lay.sep k 7 b (hT b e2) (h.gown b (by rw [e]; rfl))) (by omega)
end
set_option maxRecDepth 100000 in
set_option maxHeartbeats 2000000 in
theorem pedit_bad {W H : Int} {cs : List Int} {σ : Sv} (hcs : σ.cs = cs) {svb : Nat} {w : World} (hG : Gd W H cs svb w) (x g : Int) (h0 : editErr σ x g ≠ 0) :
    Calls Tryz.prog 16 #[.pointer (some ⟨svb, 0, none⟩), .int .i64 x, .int .i64 g] w fun e w' => e = .returned (.int .i64 (editErr σ x g)) ∧ Below w.heap.size w w' := by
  obtain ⟨ga, gc, -, -, c2, -⟩ := hG
  subst hcs
  have zs : svb < w.heap.size := cell_lt c2
  by_cases h1 : x < 0
  · have e1 : editErr σ x g = 1 := by unfold editErr; rw [if_pos (.inl h1)]
    rw [e1]
    have q1 : (x < 0) = True := by simp [h1]
    clear h0 e1 h1
    go_enter Tryz.func16, Tryz.ntmps16
    go_wp2
    go_ret
    exact ⟨rfl, bel⟩
  · have q1 : (x < 0) = False := by simp [h1]
    by_cases h2 : x ≥ (σ.cs.length : Int)
    · have e1 : editErr σ x g = 1 := by unfold editErr; rw [if_pos (.inr h2)]
      rw [e1]
      have q2 : ((σ.cs.length : Int) ≤ x) = True := by simp [h2]
      clear h0 e1 h1 h2
      go_enter Tryz.func16, Tryz.ntmps16
      go_wp2
      go_ret
      exact ⟨rfl, bel⟩
    · have q2 : ((σ.cs.length : Int) ≤ x) = False := by simp; omega
      have hbad : g < 0 ∨ g > 9 := by
        refine Classical.byContradiction fun hc => h0 ?_
        unfold editErr
        rw [if_neg (by omega), if_neg hc]
      have e1 : editErr σ x g = 4 := by unfold editErr; rw [if_neg (by omega), if_pos hbad]
      rw [e1]
      by_cases h3 : g < 0
      · have q3 : (g < 0) = True := by simp [h3]
        clear h0 e1 h1 h2 h3 hbad
        go_enter Tryz.func16, Tryz.ntmps16
        go_wp2
        go_ret
        exact ⟨rfl, bel⟩
      · have q3 : (g < 0) = False := by simp [h3]
        have q4 : (9 < g) = True := by simp; omega
        clear h0 e1 h1 h2 h3 hbad
        go_enter Tryz.func16, Tryz.ntmps16
        go_wp2
        go_ret
        exact ⟨rfl, bel⟩
set_option maxRecDepth 100000 in
set_option maxHeartbeats 8000000 in
theorem pedit_go {σ : Sv} {svb : Nat} {P : Nat → Prop} {w : World} (hP : PSv σ svb P w) (a : Nat) (g : Int) (ha : a < σ.cs.length) (hg : 0 ≤ g ∧ g ≤ 9) (hne : σ.cs[a] ≠ g) :
    Calls Tryz.prog 16 #[.pointer (some ⟨svb, 0, none⟩), .int .i64 (a : Int), .int .i64 g] w fun e w' => e = .returned (.int .i64 0) ∧ PLeft (σ.edK a g 6) svb P w w' := by
  obtain ⟨hok, hlt, ga, gc, xs, W, N, hX, hin⟩ := hP
  have hn := hok.n
  obtain ⟨b, rfl, hWb, e0, fb, hX1⟩ := hX.ground a ha g
  have hpaths := hide hX.paths
  have hgs := hide (grid_set (a := a) hok.g hg)
  have c2 := hX.c2
  have zs : svb < w.heap.size := cell_lt c2
  have zb : b < w.heap.size := cell_lt e0
  have hk1 : Keep P w (w.setCell ⟨b, a, none⟩ (.int .i64 g)) := (Keep.refl P w).setCell (p := ⟨b, a, none⟩) (.inl (hin 7 b (.inl hWb))) _
  have hE0 := hide (show EdI σ a g svb (some ⟨b, 0, none⟩) gc xs P w 0 (w.setCell ⟨b, a, none⟩ (.int .i64 g)) from by
    refine ⟨⟨W, N, ?_, fun i j q => .inl (hin i j q)⟩, hk1⟩
    rw [edK_zero]
    exact hX1.ef' (fun i hi => .inl (by unfold efK; simp)))
  have hDone := hide (fun (wr : World) (h : EdI σ a g svb (some ⟨b, 0, none⟩) gc xs P w 6 wr) => h.done hok hlt hg hpaths.out)
  have hLook := hide (fun (f t : Nat) (hf : f < σ.cs.length) (ht : t < σ.cs.length) => show lookErr ((σ.cs.set a g).length : Int) (gridNet σ.W σ.H (σ.cs.set a g) (σ.cs.set a g).length) [(f : Int), (t : Int)] = 0 from (edK_ok hok hg hpaths.out).look (by rw [edK_len]; exact hf) (by rw [edK_len]; exact ht))
  have hQs := hide (fun (k : Nat) (q : Sq) (hk : k < 6) (hq : σ.sl k = some q) => hok.q k q hk hq)
  have x0 : (w.setCell ⟨b, a, none⟩ (.int .i64 g)).cell? ⟨svb, 3, none⟩ = some (.pointer (adr (xs 0))) := hX1.cx 0 (by omega)
  have x1 : (w.setCell ⟨b, a, none⟩ (.int .i64 g)).cell? ⟨svb, 4, none⟩ = some (.pointer (adr (xs 1))) := hX1.cx 1 (by omega)
  have x2 : (w.setCell ⟨b, a, none⟩ (.int .i64 g)).cell? ⟨svb, 5, none⟩ = some (.pointer (adr (xs 2))) := hX1.cx 2 (by omega)
  have x3 : (w.setCell ⟨b, a, none⟩ (.int .i64 g)).cell? ⟨svb, 6, none⟩ = some (.pointer (adr (xs 3))) := hX1.cx 3 (by omega)
  have x4 : (w.setCell ⟨b, a, none⟩ (.int .i64 g)).cell? ⟨svb, 7, none⟩ = some (.pointer (adr (xs 4))) := hX1.cx 4 (by omega)
  have x5 : (w.setCell ⟨b, a, none⟩ (.int .i64 g)).cell? ⟨svb, 8, none⟩ = some (.pointer (adr (xs 5))) := hX1.cx 5 (by omega)
  have hix := fun (k : Nat) (hk : k < 6) (w : World) => ix_at xs k hk w
  obtain ⟨p0, hp0⟩ : ∃ p, p = adr (xs 0) := ⟨_, rfl⟩
  obtain ⟨p1, hp1⟩ : ∃ p, p = adr (xs 1) := ⟨_, rfl⟩
  obtain ⟨p2, hp2⟩ : ∃ p, p = adr (xs 2) := ⟨_, rfl⟩
  obtain ⟨p3, hp3⟩ : ∃ p, p = adr (xs 3) := ⟨_, rfl⟩
  obtain ⟨p4, hp4⟩ : ∃ p, p = adr (xs 4) := ⟨_, rfl⟩
  obtain ⟨p5, hp5⟩ : ∃ p, p = adr (xs 5) := ⟨_, rfl⟩
  rw [← hp0] at x0 hix
  rw [← hp1] at x1 hix
  rw [← hp2] at x2 hix
  rw [← hp3] at x3 hix
  rw [← hp4] at x4 hix
  rw [← hp5] at x5 hix
  replace hix := hide hix
  obtain ⟨m, hm⟩ : ∃ m, m = σ.cs.length := ⟨_, rfl⟩
  rw [← hm] at c2
  have i1 : (0 : Int) ≤ (a : Int) ∧ (a : Int) < (m : Int) := by omega
  obtain ⟨y, hy⟩ : ∃ y, y = σ.cs[a] := ⟨_, rfl⟩
  rw [← hy] at e0 hne
  have q1 : ((a : Int) < 0) = False := by simp
  have q2 : ((m : Int) ≤ (a : Int)) = False := by simp; omega
  have q3 : (g < 0) = False := by simp; omega
  have q4 : (9 < g) = False := by simp; omega
  have q5 : (y == g) = false := by simp [hne]
  have f0 := fb a
  obtain ⟨w1, hw1⟩ : ∃ w1, w1 = w.setCell ⟨b, a, none⟩ (.int .i64 g) := ⟨_, rfl⟩
  rw [← hw1] at x0 x1 x2 x3 x4 x5 hE0
  have zs1 : svb < w1.heap.size := cell_lt x0
  replace hy := hide hy
  replace hm := hide hm
  have hn64 := hn.2.1
  clear hp0 hp1 hp2 hp3 hp4 hp5 hX1 hX hin hlt hok hk1 hWb hn fb hne hg hy ha
  go_enter Tryz.func16, Tryz.ntmps16
  go_upto_region 8 with fail
  simp only [← hw1]
  replace hw1 := hide hw1
  clear c2 e0 f0
  go_wp2_with fail
  go_loopw [50] (fun i wr => ∃ k : Nat, k ≤ 6 ∧ i = .int .i64 (k : Int) ∧ Hid (EdI σ a g svb (some ⟨b, 0, none⟩) gc xs P w k wr)) (fun i _ => 6 - (intOf i).toNat)
  case atStart => exact ⟨0, by omega, rfl, by first | exact hE0 | exact hide hE0.out.drew⟩
  case round =>
    obtain ⟨k, hk6, rfl, hE⟩ := hrel
    by_cases hk : k < 6
    · have i1 : (0 : Int) ≤ (k : Int) ∧ (k : Int) < 6 := by omega
      clear x0 x1 x2 x3 x4 x5
      cases hq : σ.sl k with
      | none =>
        have hEn := hide (hE.out.skip hq)
        have hx : xs k = none := by obtain ⟨⟨W, N, hX, _⟩, _⟩ := hE.out; exact hX.noneAt hk (by rw [edK_at]; exact hq)
        have hi : ∀ w, (Instr.index 39 (.agg #[.pointer p0, .pointer p1, .pointer p2, .pointer p3, .pointer p4, .pointer p5]) (.int .i64 (k : Int))).run Tryz.prog w = .ok (.pointer none) w := fun w => by rw [hix.out k hk w, hx]; rfl
        replace hq := hide hq
        clear hx hE
        go_wp2_with fail
        go_roundw
        case rel => exact ⟨k + 1, by omega, by go_num, by first | exact hEn | exact hide hEn.out.drew⟩
        case measure => simp [intOf]; omega
      | some q =>
        obtain ⟨⟨W, N, hX, hin⟩, hkp⟩ := hE.out
        obtain ⟨x, hx, sb, cw, aw, rv, A, C, hQ0⟩ := hX.someAt hk (by rw [edK_at]; exact hq)
        have hQ : PQc (efK σ a g k k) σ.cs.length q x sb cw aw rv A C (W k) (N k) wr := by rw [← edK_len σ a g k]; exact hQ0
        have hi : ∀ w, (Instr.index 39 (.agg #[.pointer p0, .pointer p1, .pointer p2, .pointer p3, .pointer p4, .pointer p5]) (.int .i64 (k : Int))).run Tryz.prog w = .ok (.pointer (some ⟨x, 0, none⟩)) w := fun w => by rw [hix.out k hk w, hx]; rfl
        have hok1 := hQs.out k q hk hq
        have zx : x < wr.heap.size := cell_lt hQ.x0
        have hSr := hide (fun (w' : World) (kp : Keep (fun j => j = x) wr w') (rv : RV) (b : Bool) => psearch_ok (W := σ.W) (H := σ.H) (cs := σ.cs.set a g) (svb := svb) (w := w') (hX.gdK (k := k) kp (fun j e => by rw [e]; exact hQ.wx) hk) hgs.out q.f q.t aw q.ws.length cw rv b q.ws rfl ((row_keep hQ.wr kp (fun b o e e2 => by have h1 := hQ.wN b o e; rw [e2] at h1; exact hX.lay.ap k k x hQ.wx h1)).mono kp.size) (hLook.out q.f q.t hok1.f hok1.t) hok1.w (by rw [List.length_set]; exact hn64))
        rw [List.length_set] at hSr
        unfold askV at hSr
        have hEnd := hide (fun (w' : World) (rv2 : RV) (sb2 : Nat) (A2 C2 : Nat → Prop) kp x0 x1 x2 x3 x4 x5 x6 x7 x8 x9 fz hO hA hC hAC hk2 hp => EdI.next (rv2 := rv2) (sb2 := sb2) (A2 := A2) (C2 := C2) (w' := w') hX hin hkp hk hq hx hQ kp x0 x1 x2 x3 x4 x5 x6 x7 x8 x9 fz hO hA hC hAC hk2 hp)
        have hRd := hide (aobj_rounds hQ.obj)
        have hpN := hide hQ.pN
        have hxN := hide (fun (h : N k x) => hX.lay.ap k k x hQ.wx h)
        have hlN := hide (fun (j : Nat) (h : N k j) => hX.lay.lt k j (.inr h))
        have hkp0 := hide hQ.kp
        have c0 := hQ.x0
        have c1 := hQ.x1
        have c2 := hQ.x2
        have c3 := hQ.x3
        have c4 := hQ.x4
        have c5 := hQ.x5
        have c6 := hQ.x6
        have c7 := hQ.x7
        have c8 := hQ.x8
        have c9 := hQ.x9
        have fz := hQ.fz
        obtain ⟨T, hT⟩ : ∃ T, T = q.s.told.length := ⟨_, rfl⟩
        rw [← hT] at hRd
        have hT8 : T ≤ 8 := by have := hQ.obj.inv; omega
        obtain ⟨mw, hmw⟩ : ∃ mw, mw = q.ws.length := ⟨_, rfl⟩
        rw [← hmw] at c3 hSr hEnd
        obtain ⟨es', hes'⟩ : ∃ es', es' = gridNet σ.W σ.H (σ.cs.set a g) σ.cs.length := ⟨_, rfl⟩
        rw [← hes'] at hSr hEnd
        replace hes' := hide hes'
        replace hmw := hide hmw
        replace hq := hide hq
        clear hX hin hkp hQ0 hQ hx hE hok1
        go_wp2_with fail
        refine hRd.out.mono ?_
        rintro e w1 ⟨al, cl, rfl, hRA, hb1⟩
        have kp1 : Keep (fun j => j = x) wr w1 := Keep.new hb1
        have c0 := cu_below hb1 c0 zx
        have c1 := cu_below hb1 c1 zx
        have c2 := cu_below hb1 c2 zx
        have c3 := cu_below hb1 c3 zx
        have c4 := cu_below hb1 c4 zx
        have c5 := cu_below hb1 c5 zx
        have c6 := cu_below hb1 c6 zx
        have c7 := cu_below hb1 c7 zx
        have c8 := cu_below hb1 c8 zx
        have c9 := cu_below hb1 c9 zx
        have fz : ∀ o, w1.frozen? ⟨x, o, none⟩ = false := fun o => fu_below hb1 (fz o) zx
        have z1 : x < w1.heap.size := cell_lt c0
        have zr1 := hb1.size
        cases hl : q.s.told.getLast? with
        | none =>
          have hT0 : T = 0 := by rw [hT]; cases h : q.s.told with | nil => rfl | cons y l => rw [h] at hl; simp at hl
          have hkn : keptNow q = q.kept := by unfold keptNow; rw [hl]
          rw [hkn] at hEnd
          subst hT0
          replace hT := hide hT
          clear hRA hl hkn hRd
          obtain ⟨kb, hkb⟩ : ∃ kb, kb = q.kept.isSome := ⟨_, rfl⟩
          rw [← hkb] at c9 hEnd
          replace hkb := hide hkb
          go_wp2_with fail
          refine (hSr.out w1 kp1 rv kb).mono ?_
          rintro e w4 ⟨sb2, A2, C2, rfl, hO, hA, hb4, hC, hdis⟩
          have c0 := cu_below hb4 c0 z1
          have c1 := cu_below hb4 c1 z1
          have c2 := cu_below hb4 c2 z1
          have c3 := cu_below hb4 c3 z1
          have c4 := cu_below hb4 c4 z1
          have c5 := cu_below hb4 c5 z1
          have c6 := cu_below hb4 c6 z1
          have c7 := cu_below hb4 c7 z1
          have c8 := cu_below hb4 c8 z1
          have c9 := cu_below hb4 c9 z1
          have fz : ∀ o, w4.frozen? ⟨x, o, none⟩ = false := fun o => fu_below hb4 (fz o) z1
          have f0 := fz 0
          have z4 : x < w4.heap.size := cell_lt c0
          have kp4 : Keep (fun j => j = x) wr (w4.setCell ⟨x, 0, none⟩ (.pointer (some ⟨sb2, 0, none⟩))) := (kp1.trans (Keep.new hb4)).setCell (.inl rfl) _
          have hfin := hide (hEnd.out (w4.setCell ⟨x, 0, none⟩ (.pointer (some ⟨sb2, 0, none⟩))) rv sb2 A2 C2 kp4 (World.cell?_setCell_same' _ _ _ (by rw [c0]; rfl)) (cu_set_off c1 (by omega)) (cu_set_off c2 (by omega)) (cu_set_off c3 (by omega)) (cu_set_off c4 (by omega)) (cu_set_off c5 (by omega)) (cu_set_off c6 (by omega)) (cu_set_off c7 (by omega)) (cu_set_off c8 (by omega)) (cu_set_off c9 (by omega)) (fun o => fu_set (fz o)) (hO.keep ((Keep.refl (fun j => j = x) w4).setCell (p := ⟨x, 0, none⟩) (.inl rfl) _) (fun j hj e => by have := hA j hj; omega)) (fun j hj => Nat.le_trans zr1 (hA j hj)) (fun j hj => by simpa using hC j hj) hdis (hkp0.out.keep kp4 (fun j e e2 => by have h1 := hpN.out j e; rw [e2] at h1; exact hxN.out h1)) (fun j e => ⟨.inl (hpN.out j e), fun h => by have h1 := hlN.out j (hpN.out j e); have h2 := hA j (.inl h); omega⟩))
          clear hO hA hC hdis kp4 hEnd
          go_wp2
          go_roundw
          case rel => exact ⟨k + 1, by omega, by go_num, by first | exact hfin | exact hide hfin.out.drew⟩
          case measure => simp [intOf]; omega
        | some r =>
          have hkn : keptNow q = some r := by unfold keptNow; rw [hl]
          rw [hkn] at hEnd
          obtain ⟨gl, rv2, rfl, hpos, hgl, d0, d1, d2, d3, d4, hrd⟩ := rounds_last hRA hT.symm hl
          obtain ⟨u, hu⟩ : ∃ u, u = T - 1 := ⟨_, rfl⟩
          rw [← hu] at d0 d1 d2 d3 d4
          have hwu : IntKind.i64.wrap ((T : Int) - 1) = (u : Int) := by rw [IntWalk.i64_in _ (by omega)]; omega
          have i2 : (0 : Int) ≤ (u : Int) ∧ (u : Int) < (T : Int) := by omega
          have q6 : (0 < (T : Int)) = True := by simp; omega
          have hrb := hrd.2.2.2.2.2.block_lt
          have hrd := hide hrd
          have hrb := hide hrb
          replace hu := hide hu
          replace hT := hide hT
          clear hRA hl hkn hRd hkp0 hpN hpos
          have f4 := fz 4
          have f5 := fz 5
          have f6 := fz 6
          have f7 := fz 7
          have f8 := fz 8
          have f9 := fz 9
          obtain ⟨w3, hw3⟩ : ∃ w3, w3 = (((((w1.setCell ⟨x, 4, none⟩ (.int .i64 rv2.na)).setCell ⟨x, 5, none⟩ (.int .i64 rv2.nb)).setCell ⟨x, 6, none⟩ (.slice rv2.pa rv2.pm rv2.pc)).setCell ⟨x, 7, none⟩ (.int .i64 rv2.rc)).setCell ⟨x, 8, none⟩ (.int .i64 rv2.dn)).setCell ⟨x, 9, none⟩ (.bool true) := ⟨_, rfl⟩
          have kp3 : Keep (fun j => j = x) wr w3 := by rw [hw3]; exact ((((((kp1.setCell (p := ⟨x, 4, none⟩) (.inl rfl) (.int .i64 rv2.na)).setCell (p := ⟨x, 5, none⟩) (.inl rfl) (.int .i64 rv2.nb)).setCell (p := ⟨x, 6, none⟩) (.inl rfl) (.slice rv2.pa rv2.pm rv2.pc)).setCell (p := ⟨x, 7, none⟩) (.inl rfl) (.int .i64 rv2.rc)).setCell (p := ⟨x, 8, none⟩) (.inl rfl) (.int .i64 rv2.dn)).setCell (p := ⟨x, 9, none⟩) (.inl rfl) (.bool true))
          have kp13 : Keep (fun j => j = x) w1 w3 := by rw [hw3]; exact (((((((Keep.refl (fun j => j = x) w1).setCell (p := ⟨x, 4, none⟩) (.inl rfl) (.int .i64 rv2.na)).setCell (p := ⟨x, 5, none⟩) (.inl rfl) (.int .i64 rv2.nb)).setCell (p := ⟨x, 6, none⟩) (.inl rfl) (.slice rv2.pa rv2.pm rv2.pc)).setCell (p := ⟨x, 7, none⟩) (.inl rfl) (.int .i64 rv2.rc)).setCell (p := ⟨x, 8, none⟩) (.inl rfl) (.int .i64 rv2.dn)).setCell (p := ⟨x, 9, none⟩) (.inl rfl) (.bool true))
          have y0 : w3.cell? ⟨x, 0, none⟩ = some (.pointer (some ⟨sb, 0, none⟩)) := by rw [hw3]; simp [go_sem, c0]
          have y1 : w3.cell? ⟨x, 1, none⟩ = some (.int .i64 (q.f : Int)) := by rw [hw3]; simp [go_sem, c1]
          have y2 : w3.cell? ⟨x, 2, none⟩ = some (.int .i64 (q.t : Int)) := by rw [hw3]; simp [go_sem, c2]
          have y3 : w3.cell? ⟨x, 3, none⟩ = some (.slice aw mw cw) := by rw [hw3]; simp [go_sem, c3]
          have y4 : w3.cell? ⟨x, 4, none⟩ = some (.int .i64 rv2.na) := by rw [hw3]; simp [go_sem, c4]
          have y5 : w3.cell? ⟨x, 5, none⟩ = some (.int .i64 rv2.nb) := by rw [hw3]; simp [go_sem, c5, c4]
          have y6 : w3.cell? ⟨x, 6, none⟩ = some (.slice rv2.pa rv2.pm rv2.pc) := by rw [hw3]; simp [go_sem, c6, c4, c5]
          have y7 : w3.cell? ⟨x, 7, none⟩ = some (.int .i64 rv2.rc) := by rw [hw3]; simp [go_sem, c7, c4, c5, c6]
          have y8 : w3.cell? ⟨x, 8, none⟩ = some (.int .i64 rv2.dn) := by rw [hw3]; simp [go_sem, c8, c4, c5, c6, c7]
          have y9 : w3.cell? ⟨x, 9, none⟩ = some (.bool true) := by rw [hw3]; simp [go_sem, c9, c4, c5, c6, c7, c8]
          have yf : ∀ o, w3.frozen? ⟨x, o, none⟩ = false := fun o => by rw [hw3]; exact fu_set (fu_set (fu_set (fu_set (fu_set (fu_set (fz o))))))
          have zz3 : w3.heap.size = w1.heap.size := by rw [hw3]; simp
          go_wp2_with fail
          simp only [← hw3]
          clear c0 c1 c2 c3 c4 c5 c6 c7 c8 c9 d0 d1 d2 d3 d4 f4 f5 f6 f7 f8 f9
          refine (hSr.out w3 kp3 rv2 true).mono ?_
          rintro e w4 ⟨sb2, A2, C2, rfl, hO, hA, hb4, hC, hdis⟩
          have z3 : x < w3.heap.size := cell_lt y0
          have c0 := cu_below hb4 y0 z3
          have c1 := cu_below hb4 y1 z3
          have c2 := cu_below hb4 y2 z3
          have c3 := cu_below hb4 y3 z3
          have c4 := cu_below hb4 y4 z3
          have c5 := cu_below hb4 y5 z3
          have c6 := cu_below hb4 y6 z3
          have c7 := cu_below hb4 y7 z3
          have c8 := cu_below hb4 y8 z3
          have c9 := cu_below hb4 y9 z3
          have fz : ∀ o, w4.frozen? ⟨x, o, none⟩ = false := fun o => fu_below hb4 (yf o) z3
          have f0 := fz 0
          have z4 : x < w4.heap.size := cell_lt c0
          have hz34 := hb4.size
          have kp4 : Keep (fun j => j = x) wr (w4.setCell ⟨x, 0, none⟩ (.pointer (some ⟨sb2, 0, none⟩))) := (kp3.trans (Keep.new hb4)).setCell (.inl rfl) _
          have kp14 : Keep (fun j => j = x) w1 (w4.setCell ⟨x, 0, none⟩ (.pointer (some ⟨sb2, 0, none⟩))) := (kp13.trans (Keep.new hb4)).setCell (.inl rfl) _
          have hrd4 := (hrd.out.keepB kp14 (fun j e e2 => by have := hrb.out j e; omega))
          have hrd5 : KeptAt (w4.setCell ⟨x, 0, none⟩ (.pointer (some ⟨sb2, 0, none⟩))) rv2 (some r) := ⟨hrd4.1, hrd4.2.1, hrd4.2.2.1, hrd4.2.2.2.1, hrd4.2.2.2.2.1, hrd4.2.2.2.2.2.base_le (Nat.zero_le _)⟩
          have hfin := hide (hEnd.out (w4.setCell ⟨x, 0, none⟩ (.pointer (some ⟨sb2, 0, none⟩))) rv2 sb2 A2 C2 kp4 (World.cell?_setCell_same' _ _ _ (by rw [c0]; rfl)) (cu_set_off c1 (by omega)) (cu_set_off c2 (by omega)) (cu_set_off c3 (by omega)) (cu_set_off c4 (by omega)) (cu_set_off c5 (by omega)) (cu_set_off c6 (by omega)) (cu_set_off c7 (by omega)) (cu_set_off c8 (by omega)) (cu_set_off c9 (by omega)) (fun o => fu_set (fz o)) (hO.keep ((Keep.refl (fun j => j = x) w4).setCell (p := ⟨x, 0, none⟩) (.inl rfl) _) (fun j hj e => by have := hA j hj; omega)) (fun j hj => by have := hA j hj; omega) (fun j hj => by simpa using hC j hj) hdis hrd5 (fun j e => ⟨.inr ⟨(hrb.out j e).1, by have := (hrb.out j e).2; simp; omega⟩, fun h => by have h1 := (hrb.out j e).2; have h2 := hA j (.inl h); omega⟩))
          clear hO hA hC hdis kp4 hEnd hrd4 hrd5 kp14
          go_wp2
          go_roundw
          case rel => exact ⟨k + 1, by omega, by go_num, by first | exact hfin | exact hide hfin.out.drew⟩
          case measure => simp [intOf]; omega
    · obtain rfl : k = 6 := by omega
      go_wp2
      go_ret
      exact ⟨rfl, by first | exact hDone.out _ hE.out | exact hDone.out _ hE.out.drew⟩
end Go.Proofs.YtccailcjclbhlaaGreat
/-! The document's Edit: what it answers and leaves. No condition. -/
namespace Go.Proofs.YtccailcjclbhlaaGreat
open Go.RowKit
set_option linter.unusedSimpArgs false
set_option linter.unusedVariables false
section
variable {σ : Sv} {ef : Nat → List Ed} {rvb gc : Nat} {ga : Option Addr} {xs : Nat → AV} {W N : Nat → Nat → Prop} {w w' : World} {k : Nat}
theorem RSx.ef' (h : RSx σ ef rvb ga gc xs W N w) {ef' : Nat → List Ed} (he : ∀ i, i < 6 → ef i = ef' i ∨ σ.sl i = none) : RSx σ ef' rvb ga gc xs W N w := by
  refine ⟨h.lay, h.c0, h.c1, h.c2, h.cx, h.c9, h.fz, h.own, h.grd, h.gown, fun i hi => ?_⟩
  rcases he i hi with e | e
  · rw [← e]; exact h.sl i hi
  · exact .inl ⟨e, h.noneAt hi e⟩
theorem RSx.paths (h : RSx σ ef rvb ga gc xs W N w) : ∀ i q, i < 6 → σ.sl i = some q → ∀ r ∈ q.s.told, r.path.length ≤ 64 := by
  intro i q hi hq
  obtain ⟨rb, R, C, hQ⟩ := h.someAt hi hq
  exact hQ.obj.inv.1.lp
/-- request k begun anew -/
theorem RSx.again (h : RSx σ ef rvb ga gc xs W N w) (hk : k < 6) {q : Sq} {rb : Nat} {R C : Nat → Prop} (hQ : RQc (ef k) σ.cs.length q (xs k) rb R C (W k) (N k) w) (kp : Keep (fun j => j = rvb) w w') {es : List Ed} {q2 : Sq} {x : AV} {rb2 : Nat} {R2 C2 : Nat → Prop} (e1 : q2.f = q.f) (e2 : q2.t = q.t) (e3 : q2.ws = q.ws) (x0 : x.is = true) (x1 : x.f = (q.f : Int)) (x2 : x.t = (q.t : Int)) (x3 : x.aw = (xs k).aw) (x4 : x.am = q.ws.length) (x5 : x.p = some ⟨rb2, 0, none⟩)
    (hc : ∀ o, (o < 3 + k * 6 ∨ 9 + k * 6 ≤ o) → ∀ v, w.cell? ⟨rvb, o, none⟩ = some v → w'.cell? ⟨rvb, o, none⟩ = some v) (hck : ∀ j u, (encA x)[j]? = some u → w'.cell? ⟨rvb, 3 + k * 6 + j, none⟩ = some u) (hf : ∀ o, w'.frozen? ⟨rvb, o, none⟩ = false)
    (hO : RObj σ.cs.length q.t es hZ q.ws q2.s rb2 R2 C2 w') (hR : ∀ j, R2 j → w.heap.size ≤ j) (hC : ∀ j, C2 j → N k j ∨ (w.heap.size ≤ j ∧ j < w'.heap.size)) (hRC : ∀ j, R2 j → ¬ C2 j) {K : Nat → Prop} (hkr : KRow w' K x.ka x.km q2.kept) (hK : ∀ j, K j → W k j ∨ N k j) :
    ∃ W' N', RSx { σ with sl := upz σ.sl k (some q2) } (upz ef k es) rvb ga gc (upz xs k x) W' N' w' ∧ ∀ i j, W' i j ∨ N' i j → W i j ∨ N i j ∨ (w.heap.size ≤ j ∧ j < w'.heap.size) := by
  have zs : rvb < w.heap.size := cell_lt h.c0
  have hwb : ∀ b o, (xs k).aw = some ⟨b, o, none⟩ → ¬ (b = rvb) := fun b o e e2 => by have := hQ.wN b o e; rw [e2] at this; exact h.lay.ap 6 k rvb h.own this
  have hkr2 : KRow w' (fun j => C2 j ∨ (∃ o, x.aw = some ⟨j, o, none⟩) ∨ K j) x.ka x.km q2.kept := by
    cases hq2 : q2.kept with
    | none => rw [hq2] at hkr; exact hkr
    | some r =>
      rw [hq2] at hkr
      obtain ⟨g1, kb, ko, rv, g2, g3, g4, g5, g6⟩ := hkr
      exact ⟨g1, kb, ko, rv, g2, g3, g4, .inr (.inr g5), fun j e => .inr (.inr (g6 j e))⟩
  have hQ2 : RQc es σ.cs.length q2 x rb2 R2 C2 R2 (fun j => C2 j ∨ (∃ o, x.aw = some ⟨j, o, none⟩) ∨ K j) w' :=
    ⟨x0, by rw [e1]; exact x1, by rw [e2]; exact x2, by rw [e3]; exact x4, x5, by rw [e2, e3]; exact hO, by rw [e3, x3]; exact ((row_keep hQ.wr kp hwb).mono kp.size), hkr2, fun j hh => hh, fun j hh => .inl hh, fun j o e => .inr (.inl ⟨o, e⟩)⟩
  have hslot := h.slot hk kp (fun j e => .inl e) hc hck hf (some q2) es (W' := R2) (N' := fun j => C2 j ∨ (∃ o, x.aw = some ⟨j, o, none⟩) ∨ K j) (fun j hh => .inr ⟨hR j hh, hO.lt hh⟩) (fun j hh => ?_) (fun j hh hn => ?_) (.inr ⟨_, rfl, rb2, R2, C2, hQ2⟩)
  · refine ⟨_, _, hslot, fun i j hj => ?_⟩
    by_cases e : i = k
    · subst e
      rw [upz_same, upz_same] at hj
      rcases hj with hj | hj | ⟨o, hj⟩ | hj
      · exact .inr (.inr ⟨hR j hj, hO.lt hj⟩)
      · exact .inr (hC j hj)
      · exact .inr (.inl (hQ.wN j o (by rw [← x3]; exact hj)))
      · rcases hK j hj with q | q
        · exact .inl q
        · exact .inr (.inl q)
    · rw [upz_other _ _ e, upz_other _ _ e] at hj
      rcases hj with hj | hj
      · exact .inl hj
      · exact .inr (.inl hj)
  · rcases hh with hh | ⟨o, hh⟩ | hh
    · exact .inr (hC j hh)
    · exact .inr (.inl (hQ.wN j o (by rw [← x3]; exact hh)))
    · rcases hK j hh with q | q
      · exact .inl q
      · exact .inr (.inl q)
  · have h1 := hR j hh
    rcases hn with hn | ⟨o, hn⟩ | hn
    · exact hRC j hh hn
    · have h2 := h.lay.lt k j (.inr (hQ.wN j o (by rw [← x3]; exact hn)))
      omega
    · have h2 := h.lay.lt k j (hK j hn)
      omega
end
/-- what holds while the requests are begun anew: k of them are -/
def EdR (σ : Sv) (a : Nat) (g : Int) (rvb : Nat) (ga : Option Addr) (gc : Nat) (P : Nat → Prop) (w : World) (k : Nat) (wr : World) : Prop :=
  (∃ xs W N, RSx (σ.edK a g k) (efK σ a g k) rvb ga gc xs W N wr ∧ ∀ i j, W i j ∨ N i j → grown P w wr j) ∧ Keep P w wr
section
variable {σ : Sv} {a : Nat} {g : Int} {rvb : Nat} {ga : Option Addr} {gc : Nat} {P : Nat → Prop} {w wr : World} {k : Nat}
theorem EdR.skip (h : EdR σ a g rvb ga gc P w k wr) (hq : σ.sl k = none) : EdR σ a g rvb ga gc P w (k + 1) wr := by
  obtain ⟨⟨xs, W, N, h1, h2⟩, h3⟩ := h
  refine ⟨⟨xs, W, N, ?_, h2⟩, h3⟩
  rw [edK_none hq]
  refine h1.ef' (fun i hi => ?_)
  by_cases e : i = k
  · subst e; exact .inr (by rw [edK_at]; exact hq)
  · left
    unfold efK
    by_cases q : i < k
    · have h2 : i < k + 1 := by omega
      simp [q, h2]
    · have h2 : ¬ i < k + 1 := by omega
      simp [q, h2]
theorem EdR.next {xs : Nat → AV} {W N : Nat → Nat → Prop} (hX : RSx (σ.edK a g k) (efK σ a g k) rvb ga gc xs W N wr) (hin : ∀ i j, W i j ∨ N i j → grown P w wr j) (hkp : Keep P w wr) (hk : k < 6) {q : Sq} (hq : σ.sl k = some q) {rb : Nat} {R C : Nat → Prop} (hQ : RQc (efK σ a g k k) σ.cs.length q (xs k) rb R C (W k) (N k) wr) {w' : World} (kp : Keep (fun j => j = rvb) wr w') {x : AV} {rb2 : Nat} {R2 C2 : Nat → Prop} (x0 : x.is = true) (x1 : x.f = (q.f : Int)) (x2 : x.t = (q.t : Int)) (x3 : x.aw = (xs k).aw) (x4 : x.am = q.ws.length) (x5 : x.p = some ⟨rb2, 0, none⟩)
    (hc : ∀ o, (o < 3 + k * 6 ∨ 9 + k * 6 ≤ o) → ∀ v, wr.cell? ⟨rvb, o, none⟩ = some v → w'.cell? ⟨rvb, o, none⟩ = some v) (hck : ∀ j u, (encA x)[j]? = some u → w'.cell? ⟨rvb, 3 + k * 6 + j, none⟩ = some u) (hf : ∀ o, w'.frozen? ⟨rvb, o, none⟩ = false)
    (hO : RObj σ.cs.length q.t (gridNet σ.W σ.H (σ.cs.set a g) σ.cs.length) hZ q.ws (sBegin (gridNet σ.W σ.H (σ.cs.set a g) σ.cs.length) σ.cs.length q.f q.t q.ws) rb2 R2 C2 w') (hR : ∀ j, R2 j → wr.heap.size ≤ j) (hC : ∀ j, C2 j → N k j ∨ (wr.heap.size ≤ j ∧ j < w'.heap.size)) (hRC : ∀ j, R2 j → ¬ C2 j) {K : Nat → Prop} (hkr : KRow w' K x.ka x.km (keptNow q)) (hK : ∀ j, K j → W k j ∨ N k j) : EdR σ a g rvb ga gc P w (k + 1) w' := by
  have hl := edK_len σ a g k
  obtain ⟨W', N', h1, h2⟩ := RSx.again (q := q) hX hk (by rw [hl]; exact hQ) kp (es := gridNet σ.W σ.H (σ.cs.set a g) σ.cs.length) (q2 := again (gridNet σ.W σ.H (σ.cs.set a g) σ.cs.length) σ.cs.length q) rfl rfl rfl x0 x1 x2 x3 x4 x5 hc hck hf (by rw [hl]; exact hO) hR hC hRC hkr hK
  refine ⟨⟨upz xs k x, W', N', ?_, fun i j hj => ?_⟩, hkp.trans2 kp (fun j hj => ?_)⟩
  · rw [edK_some hq, efK_succ]
    exact h1
  · rcases h2 i j hj with h | h | h
    · rcases hin i j (.inl h) with h3 | h3
      · exact .inl h3
      · exact .inr ⟨h3.1, Nat.lt_of_lt_of_le h3.2 kp.size⟩
    · rcases hin i j (.inr h) with h3 | h3
      · exact .inl h3
      · exact .inr ⟨h3.1, Nat.lt_of_lt_of_le h3.2 kp.size⟩
    · exact .inr ⟨by have := hkp.size; omega, h.2⟩
  · subst hj
    rcases hin 6 j (.inl hX.own) with h3 | h3
    · exact .inl h3
    · exact .inr h3.1
theorem EdR.done (h : EdR σ a g rvb ga gc P w 6 wr) (hok : SvOk σ) (hlt : ∀ j, P j → j < w.heap.size) (hg : 0 ≤ g ∧ g ≤ 9) (hp : ∀ i q, i < 6 → σ.sl i = some q → ∀ r ∈ q.s.told, r.path.length ≤ 64) : RLeft (σ.edK a g 6) rvb P w wr := by
  obtain ⟨⟨xs, W, N, h1, h2⟩, h3⟩ := h
  refine ⟨⟨edK_ok hok hg hp, fun j hj => ?_, ga, gc, xs, W, N, h1.ef' (fun i hi => .inl ?_), h2⟩, h3⟩
  · rcases hj with hj | hj
    · exact Nat.lt_of_lt_of_le (hlt j hj) h3.size
    · exact hj.2
  · rw [edK_es]; unfold efK; rw [if_pos hi]
end
theorem told_last {w : World} {ar : Option Addr} {T rc : Nat} {ros : List RV} {told : List RD} {r : RD} (hO : Own encR 5 60 w 0 (.slice ar T rc) ros) (hT : Told w 0 ros told) (hl : told.length = T) (hr : told.getLast? = some r) : ∃ g u rv, ar = some ⟨g, 0, none⟩ ∧ T = u + 1 ∧ u + 1 ≤ rc ∧ rc ≤ maxLen ∧ g < w.heap.size ∧ (∀ j x, (encR rv)[j]? = some x → w.cell? ⟨g, u * 5 + j, none⟩ = some x) ∧ RoundAt w 0 rv r ∧ ∀ j, (Value.slice rv.pa rv.pm rv.pc).ownBlock = some j → Pathb ros j := by
  have hpos : 0 < told.length := by
    cases told with
    | nil => cases hr
    | cons x l => simp
  have hrt : told[told.length - 1]'(by omega) = r := by
    have := List.getLast?_eq_getElem? (l := told)
    rw [hr, List.getElem?_eq_getElem (by omega)] at this
    exact (Option.some.inj this).symm
  obtain ⟨rv, g1, g2⟩ := hT.2 (told.length - 1) (by omega)
  rw [hrt] at g2
  have hrl : ros.length = T := by rw [hT.1]; exact hl
  obtain ⟨u, hu⟩ : ∃ u, T = u + 1 := ⟨T - 1, by omega⟩
  have hi : u < ros.length := by omega
  rw [show told.length - 1 = u by omega] at g1
  have hrv : ros[u] = rv := (List.getElem?_eq_some_iff.1 g1).2
  rcases hO.form with ⟨e1, e2⟩ | ⟨g, cap, e1, e2, e3, e4, e5⟩
  · rw [e2] at hrl; simp at hrl; omega
  · simp only [Value.slice.injEq] at e1
    obtain ⟨rfl, -, rfl⟩ := e1
    exact ⟨g, u, rv, rfl, hu, by omega, e5, e3, fun j x hx => hO.get lenR u hi j x (by rw [hrv]; exact hx), g2, fun j hj => ⟨rv, by rw [← hrv]; exact List.getElem_mem hi, hj⟩⟩
set_option maxRecDepth 100000 in
set_option maxHeartbeats 2000000 in
theorem redit_bad {W H : Int} {cs : List Int} {σ : Sv} (hcs : σ.cs = cs) {rvb : Nat} {w : World} (hG : Gd W H cs rvb w) (x g : Int) (h0 : editErr σ x g ≠ 0) :
    Calls Tryz.prog 17 #[.pointer (some ⟨rvb, 0, none⟩), .int .i64 x, .int .i64 g] w fun e w' => e = .returned (.int .i64 (editErr σ x g)) ∧ Below w.heap.size w w' := by
  obtain ⟨ga, gc, -, -, c2, -⟩ := hG
  subst hcs
  have zs : rvb < w.heap.size := cell_lt c2
  by_cases h1 : x < 0
  · have e1 : editErr σ x g = 1 := by unfold editErr; rw [if_pos (.inl h1)]
    rw [e1]
    have q1 : (x < 0) = True := by simp [h1]
    clear h0 e1 h1
    go_enter Tryz.func17, Tryz.ntmps17
    go_wp2
    go_ret
    exact ⟨rfl, bel⟩
  · have q1 : (x < 0) = False := by simp [h1]
    by_cases h2 : x ≥ (σ.cs.length : Int)
    · have e1 : editErr σ x g = 1 := by unfold editErr; rw [if_pos (.inr h2)]
      rw [e1]
      have q2 : ((σ.cs.length : Int) ≤ x) = True := by simp [h2]
      clear h0 e1 h1 h2
      go_enter Tryz.func17, Tryz.ntmps17
      go_wp2
      go_ret
      exact ⟨rfl, bel⟩
    · have q2 : ((σ.cs.length : Int) ≤ x) = False := by simp; omega
      have hbad : g < 0 ∨ g > 9 := by
        refine Classical.byContradiction fun hc => h0 ?_
        unfold editErr
        rw [if_neg (by omega), if_neg hc]
      have e1 : editErr σ x g = 4 := by unfold editErr; rw [if_neg (by omega), if_pos hbad]
      rw [e1]
      by_cases h3 : g < 0
      · have q3 : (g < 0) = True := by simp [h3]
        clear h0 e1 h1 h2 h3 hbad
        go_enter Tryz.func17, Tryz.ntmps17
        go_wp2
        go_ret
        exact ⟨rfl, bel⟩
      · have q3 : (g < 0) = False := by simp [h3]
        have q4 : (9 < g) = True := by simp; omega
        clear h0 e1 h1 h2 h3 hbad
        go_enter Tryz.func17, Tryz.ntmps17
        go_wp2
        go_ret
        exact ⟨rfl, bel⟩
set_option maxRecDepth 100000 in
set_option maxHeartbeats 8000000 in
theorem redit_go {σ : Sv} {rvb : Nat} {P : Nat → Prop} {w : World} (hP : RSv σ rvb P w) (a : Nat) (g : Int) (ha : a < σ.cs.length) (hg : 0 ≤ g ∧ g ≤ 9) (hne : σ.cs[a] ≠ g) :
    Calls Tryz.prog 17 #[.pointer (some ⟨rvb, 0, none⟩), .int .i64 (a : Int), .int .i64 g] w fun e w' => e = .returned (.int .i64 0) ∧ RLeft (σ.edK a g 6) rvb P w w' := by
  obtain ⟨hok, hlt, ga, gc, xs, W, N, hX, hin⟩ := hP
  have hn := hok.n
  obtain ⟨b, rfl, hWb, e0, fb, hX1⟩ := hX.ground a ha g
  have hpaths := hide hX.paths
  have hgs := hide (grid_set (a := a) hok.g hg)
  have c2 := hX.c2
  have zs : rvb < w.heap.size := cell_lt c2
  have zb : b < w.heap.size := cell_lt e0
  have hk1 : Keep P w (w.setCell ⟨b, a, none⟩ (.int .i64 g)) := (Keep.refl P w).setCell (p := ⟨b, a, none⟩) (.inl (hin 7 b (.inl hWb))) _
  have hE0 := hide (show EdR σ a g rvb (some ⟨b, 0, none⟩) gc P w 0 (w.setCell ⟨b, a, none⟩ (.int .i64 g)) from by
    refine ⟨⟨xs, W, N, ?_, fun i j q => .inl (hin i j q)⟩, hk1⟩
    rw [edK_zero]
    exact hX1.ef' (fun i hi => .inl (by unfold efK; simp)))
  have hDone := hide (fun (wr : World) (h : EdR σ a g rvb (some ⟨b, 0, none⟩) gc P w 6 wr) => h.done hok hlt hg hpaths.out)
  have hLook := hide (fun (f t : Nat) (hf : f < σ.cs.length) (ht : t < σ.cs.length) => show lookErr ((σ.cs.set a g).length : Int) (gridNet σ.W σ.H (σ.cs.set a g) (σ.cs.set a g).length) [(f : Int), (t : Int)] = 0 from (edK_ok hok hg hpaths.out).look (by rw [edK_len]; exact hf) (by rw [edK_len]; exact ht))
  have hQs := hide (fun (k : Nat) (q : Sq) (hk : k < 6) (hq : σ.sl k = some q) => hok.q k q hk hq)
  obtain ⟨m, hm⟩ : ∃ m, m = σ.cs.length := ⟨_, rfl⟩
  rw [← hm] at c2
  have i1 : (0 : Int) ≤ (a : Int) ∧ (a : Int) < (m : Int) := by omega
  obtain ⟨y, hy⟩ : ∃ y, y = σ.cs[a] := ⟨_, rfl⟩
  rw [← hy] at e0 hne
  have q1 : ((a : Int) < 0) = False := by simp
  have q2 : ((m : Int) ≤ (a : Int)) = False := by simp; omega
  have q3 : (g < 0) = False := by simp; omega
  have q4 : (9 < g) = False := by simp; omega
  have q5 : (y == g) = false := by simp [hne]
  have f0 := fb a
  obtain ⟨w1, hw1⟩ : ∃ w1, w1 = w.setCell ⟨b, a, none⟩ (.int .i64 g) := ⟨_, rfl⟩
  rw [← hw1] at hE0
  have hn64 := hn.2.1
  have hn1 := hn.1
  replace hy := hide hy
  replace hm := hide hm
  clear hX1 hX hin hlt hok hk1 hWb hn fb hne hg hy ha
  go_enter Tryz.func17, Tryz.ntmps17
  go_upto_region 8 with fail
  simp only [← hw1]
  replace hw1 := hide hw1
  clear c2 e0 f0
  go_wp2_with fail
  go_loopw [46] (fun i wr => ∃ k : Nat, k ≤ 6 ∧ i = .int .i64 (k : Int) ∧ Hid (EdR σ a g rvb (some ⟨b, 0, none⟩) gc P w k wr)) (fun i _ => 6 - (intOf i).toNat)
  case atStart => exact ⟨0, by omega, rfl, by first | exact hE0 | exact hide (hE0.out.stays (below_drew _))⟩
  case round =>
    obtain ⟨k, hk6, rfl, hE⟩ := hrel
    by_cases hk : k < 6
    · have i1 : (0 : Int) ≤ (k : Int) ∧ (k : Int) < 6 := by omega
      cases hq : σ.sl k with
      | none =>
        have hEn := hide (hE.out.skip hq)
        have s0 : wr.cell? ⟨rvb, 3 + k * 6, none⟩ = some (.bool false) := by
          obtain ⟨⟨xs, W, N, hX, _⟩, _⟩ := hE.out
          have h := (hX.six hk).1
          rw [hX.noneAt hk (by rw [edK_at]; exact hq)] at h
          exact h
        have zr : rvb < wr.heap.size := cell_lt s0
        replace hq := hide hq
        clear hE
        go_wp2_with fail
        go_roundw
        case rel => exact ⟨k + 1, by omega, by go_num, by first | exact hEn | exact hide (hEn.out.stays (below_drew _))⟩
        case measure => simp [intOf]; omega
      | some q =>
        obtain ⟨⟨xs, W, N, hX, hin⟩, hkp⟩ := hE.out
        obtain ⟨rb, R, C, hQ0⟩ := hX.someAt hk (by rw [edK_at]; exact hq)
        have hQ : RQc (efK σ a g k k) σ.cs.length q (xs k) rb R C (W k) (N k) wr := by rw [← edK_len σ a g k]; exact hQ0
        obtain ⟨s0, s1, s2, s3, s4, s5⟩ := hX.six hk
        rw [hQ.a0] at s0
        rw [hQ.a1] at s1
        rw [hQ.a2] at s2
        rw [hQ.a3] at s3
        rw [hQ.a4] at s4
        have fz := hX.fz
        have zr : rvb < wr.heap.size := cell_lt s0
        have hok1 := hQs.out k q hk hq
        obtain ⟨hRr, ar, aw2, rc, wc, ros, -, t12, hOwn, hTold, hOb, hPb⟩ := hQ.obj.toldOwn
        have zrb : rb < wr.heap.size := cell_lt t12
        have hT8 := hQ.obj.inv
        have hlx := fun i j q => hX.lay.lt i j q
        have hwN := hide (fun (j o : Nat) (e : (xs k).aw = some ⟨j, o, none⟩) => hQ.wN j o e)
        have hwb := hide (fun (j o : Nat) (e : (xs k).aw = some ⟨j, o, none⟩) (e2 : j = rvb) => show False from by have h1 := hQ.wN j o e; rw [e2] at h1; exact hX.lay.ap 6 k rvb hX.own h1)
        have hrbr : rb ≠ rvb := fun e => by have h1 := hQ.rW rb hRr; rw [e] at h1; exact absurd (hX.lay.sep 6 k rvb hX.own h1) (by omega)
        have hSr0 := hide (fun (w' : World) (kp : Keep (fun j => j = rvb) wr w') (hc : ∀ o, (o < 3 + k * 6 ∨ 9 + k * 6 ≤ o) → ∀ v, wr.cell? ⟨rvb, o, none⟩ = some v → w'.cell? ⟨rvb, o, none⟩ = some v) => rsearch_ok (W := σ.W) (H := σ.H) (cs := σ.cs.set a g) (rvb := rvb) (w := w') ⟨some ⟨b, 0, none⟩, gc, hc 0 (by omega) _ hX.c0, hc 1 (by omega) _ hX.c1, hc 2 (by omega) _ hX.c2, (row_keep hX.row kp (fun b' o e e2 => by cases e; exact absurd (hX.lay.sep 6 7 rvb hX.own (by rw [← e2]; exact hX.gown _ rfl)) (by omega))).mono kp.size⟩ hgs.out q.f q.t (xs k).aw q.ws.length (xs k).ac q.ws rfl ((row_keep hQ.wr kp (fun b' o e e2 => hwb.out b' o e e2)).mono kp.size) (hLook.out q.f q.t hok1.f hok1.t) hok1.w (by rw [List.length_set]; exact ⟨hn1, hn64⟩))
        rw [List.length_set] at hSr0
        have hEnd0 := hide (fun (ka : Option Addr) (km kc : Nat) (K : Nat → Prop) (hK : ∀ j, K j → W k j ∨ N k j) (w' : World) (rb2 : Nat) (R2 C2 : Nat → Prop) kp hc hck hf hO hR hC hRC hkr => EdR.next (x := ⟨true, (q.f : Int), (q.t : Int), (xs k).aw, q.ws.length, (xs k).ac, some ⟨rb2, 0, none⟩, ka, km, kc⟩) (rb2 := rb2) (R2 := R2) (C2 := C2) (K := K) (w' := w') hX hin hkp hk hq hQ kp rfl rfl rfl rfl rfl rfl hc hck hf hO hR hC hRC hkr hK)
        have hkp0 := hQ.kp
        have hNl := hide (fun (j : Nat) (h : N k j) => show j ≠ rvb from fun e => by rw [e] at h; exact hX.lay.ap 6 k rvb hX.own h)
        have hRW := hQ.rW
        have hRne : ∀ j, R j → j ≠ rvb := fun j h e => by have h1 := hRW j h; rw [e] at h1; exact absurd (hX.lay.sep 6 k rvb hX.own h1) (by omega)
        obtain ⟨T, hT⟩ : ∃ T, T = q.s.told.length := ⟨_, rfl⟩
        rw [← hT] at t12 hOwn hOb
        have hT8' : T ≤ 8 := by omega
        obtain ⟨aw, haw⟩ : ∃ aw, aw = (xs k).aw := ⟨_, rfl⟩
        obtain ⟨ac, hac⟩ : ∃ ac, ac = (xs k).ac := ⟨_, rfl⟩
        obtain ⟨mw, hmw⟩ : ∃ mw, mw = q.ws.length := ⟨_, rfl⟩
        rw [← haw, ← hac, ← hmw] at hSr0 hEnd0
        rw [← haw, ← hmw, ← hac] at s3
        rw [← haw] at hwN hwb
        replace haw := hide haw
        replace hac := hide hac
        replace hmw := hide hmw
        obtain ⟨ka, hka⟩ : ∃ v, v = (xs k).ka := ⟨_, rfl⟩
        obtain ⟨km, hkm⟩ : ∃ v, v = (xs k).km := ⟨_, rfl⟩
        obtain ⟨kc, hkc⟩ : ∃ v, v = (xs k).kc := ⟨_, rfl⟩
        rw [← hka, ← hkm, ← hkc] at s5
        rw [← hka, ← hkm] at hkp0
        clear hka hkm hkc
        replace hq := hide hq
        clear hE hX hin hkp hQ0 hQ hok1 hRr hT8 hlx
        cases hl : q.s.told.getLast? with
        | none =>
          have hT0 : T = 0 := by rw [hT]; cases h : q.s.told with | nil => rfl | cons y l => rw [h] at hl; simp at hl
          have hkn : keptNow q = q.kept := by unfold keptNow; rw [hl]
          rw [hkn] at hEnd0
          subst hT0
          have kp3 : Keep (fun j => j = rvb) wr wr := Keep.refl _ _
          have hc3 : ∀ o, (o < 3 + k * 6 ∨ 9 + k * 6 ≤ o) → ∀ v, wr.cell? ⟨rvb, o, none⟩ = some v → wr.cell? ⟨rvb, o, none⟩ = some v := fun _ _ _ h => h
          have hSr := hide (fun (w' : World) (hb : Below wr.heap.size wr w') => hSr0.out w' (Keep.new hb) (fun o _ v hv => cu_below hb hv zr))
          have hEnd := hide (hEnd0.out ka km kc (N k) (fun j h => .inr h))
          have hKr := hide (fun (w' : World) (kp : Keep (fun j => j = rvb) wr w') => hkp0.keep kp (fun j h e => hNl.out j h e))
          replace hT := hide hT
          clear hl hkn hOwn hTold hOb hPb hkp0 hSr0 hEnd0 hNl hRW hRne
          go_wp2_with fail
          have key0 := hide (show ∀ w', Below wr.heap.size wr w' → (fun w' => Below wr.heap.size wr w' ∧ w'.cell? ⟨rvb, 3 + k * 6 + 1, none⟩ = some (.int .i64 (q.f : Int)) ∧ w'.cell? ⟨rvb, 3 + k * 6 + 2, none⟩ = some (.int .i64 (q.t : Int)) ∧ w'.cell? ⟨rvb, 3 + k * 6 + 3, none⟩ = some (.slice aw mw ac) ∧ w'.cell? ⟨rvb, 3 + k * 6 + 4, none⟩ = some (.pointer (some ⟨rb, 0, none⟩)) ∧ w'.frozen? ⟨rvb, 3 + k * 6 + 4, none⟩ = false) w' from fun w' hb => ⟨hb, cu_below hb s1 zr, cu_below hb s2 zr, cu_below hb s3 zr, cu_below hb s4 zr, fu_below hb (fz _) zr⟩)
          refine wp_region_end (S := (fun w' => Below wr.heap.size wr w' ∧ w'.cell? ⟨rvb, 3 + k * 6 + 1, none⟩ = some (.int .i64 (q.f : Int)) ∧ w'.cell? ⟨rvb, 3 + k * 6 + 2, none⟩ = some (.int .i64 (q.t : Int)) ∧ w'.cell? ⟨rvb, 3 + k * 6 + 3, none⟩ = some (.slice aw mw ac) ∧ w'.cell? ⟨rvb, 3 + k * 6 + 4, none⟩ = some (.pointer (some ⟨rb, 0, none⟩)) ∧ w'.frozen? ⟨rvb, 3 + k * 6 + 4, none⟩ = false)) (t := 17) (by kernel_rfl) ?_ (fun hHeld hInv => ?_)
          · exact key0.out _ (below_drew _)
          replace hInv := hide hInv
          refine planE [0, 1, 2, 3, 4, 5, 6, 7, 8, 9, 10, 11, 12, 13] ?_
          iterate 14
            refine PlanE.take (v := ?_) (List.getElem?_toArray.trans rfl) (by kernel_rfl) (fun _ _ _ h => h) (Or.inl ⟨by rfl, ?_⟩) hInv.out (by assumption) (fun hInv' => ?_)
            rotate_left
            · intro w hSw; (try dsimp only at hSw); go_simp; (try with_reducible rfl)
            replace hInv := hide hInv'; clear hInv'; try simp only [Act.put, List.setIfInBounds_toArray, List.set_cons_zero, List.set_cons_succ]
          refine wpAnyE_one (i := 14) (List.getElem?_toArray.trans rfl) (by kernel_rfl) (fun K hK => ?_) hInv.out
          (go_simp; refine (hSr.out _ (hHeld.1)).mono ?_; rintro e wS ⟨rb2, R2, C2, rfl, hO, hR, hbS, hC, hRC⟩; have hSB := hHeld.1)
          have hHeld := key0.out _ (below_step hHeld.1 hbS)
          refine hK.out _ _ (fun _ => hHeld) (fun hInv' => ?_)
          clear hK K; replace hInv := hide (hInv' (by decide)); clear hInv'; try simp only [Act.put, List.setIfInBounds_toArray, List.set_cons_zero, List.set_cons_succ]
          refine planE [15, 16] ?_
          iterate 2
            refine PlanE.take (v := ?_) (List.getElem?_toArray.trans rfl) (by kernel_rfl) (fun _ _ _ h => h) (Or.inl ⟨by rfl, ?_⟩) hInv.out (by assumption) (fun hInv' => ?_)
            rotate_left
            · intro w hSw; (try dsimp only at hSw); go_simp; (try with_reducible rfl)
            replace hInv := hide hInv'; clear hInv'; try simp only [Act.put, List.setIfInBounds_toArray, List.set_cons_zero, List.set_cons_succ]
          refine wpAnyE_one (i := 17) (List.getElem?_toArray.trans rfl) (by kernel_rfl) (fun K hK => ?_) hInv.out
          (try dsimp only at hHeld); go_simp
          refine hK.out _ _ (fun h => absurd rfl h) (fun _ => ?_)
          clear hK K hInv; try simp only [Act.put, List.setIfInBounds_toArray, List.set_cons_zero, List.set_cons_succ]
          refine wpAnyE_done (by kernel_rfl) ?_ _
          have y3 := hbS.size
          have y4 := hSB.size
          have hbS2 := below_step hSB hbS
          have zS : rvb < wS.heap.size := by omega
          have u0 := cu_below hbS2 s0 zr
          have u1 := cu_below hbS2 s1 zr
          have u2 := cu_below hbS2 s2 zr
          have u3 := cu_below hbS2 s3 zr
          have u4 := cu_below hbS2 s4 zr
          have u5 := cu_below hbS2 s5 zr
          have kpS : Keep (fun j => j = rvb) wr (wS.setCell ⟨rvb, 3 + k * 6 + 4, none⟩ (.pointer (some ⟨rb2, 0, none⟩))) := (kp3.trans (Keep.new hbS2)).setCell (.inl rfl) _
          have hfin := hide (hEnd.out _ rb2 R2 C2 kpS (fun o ho v hv => cu_set_off (cu_below hbS2 (hc3 o ho v hv) zr) (by omega)) (fun j u hu => by
            have hj : j < 6 := by have := (List.getElem?_eq_some_iff.1 hu).1; simpa [encA] using this
            match j, hj with
            | 0, _ => cases hu; exact cu_set_off u0 (by omega)
            | 1, _ => cases hu; exact cu_set_off u1 (by omega)
            | 2, _ => cases hu; exact cu_set_off u2 (by omega)
            | 3, _ => cases hu; exact cu_set_off u3 (by omega)
            | 4, _ => cases hu; exact World.cell?_setCell_same' _ _ _ (by rw [u4]; rfl)
            | 5, _ => cases hu; exact cu_set_off u5 (by omega)) (fun o => fu_set (fu_below hbS2 (fz o) zr)) (hO.keep ((Keep.refl (fun j => j = rvb) wS).setCell (p := ⟨rvb, 3 + k * 6 + 4, none⟩) (.inl rfl) _) (fun j hj e => by
              rcases hj with hj | hj
              · have := hR j hj; omega
              · rcases hC j hj with q | ⟨o, q⟩
                · omega
                · exact hwb.out j o q e)) (fun j hj => by have := hR j hj; omega) (fun j hj => by
              rcases hC j hj with q | ⟨o, q⟩
              · exact .inr ⟨by omega, by simp; omega⟩
              · exact .inl (hwN.out j o q)) hRC (hKr.out _ kpS))
          clear hO hR hC hRC hbS hSB hbS2 u0 u1 u2 u3 u4 u5 kpS hHeld key0 hEnd hSr
          go_wp2
          go_roundw
          case rel => exact ⟨k + 1, by omega, by go_num, by first | exact hfin | exact hide (hfin.out.stays (below_drew _))⟩
          case measure => simp [intOf]; omega
        | some r =>
          obtain ⟨gb, u, rv, hga, hTu, hucap, hmax, zg, hcell, hrd, hpth⟩ := told_last hOwn hTold hT.symm hl
          subst hga
          subst hTu
          have hkn : keptNow q = some r := by unfold keptNow; rw [hl]
          rw [hkn] at hEnd0
          have hgR : R gb := hOb gb rfl
          have hcell := hide hcell
          have hKr := hide (fun (w' : World) (kp : Keep (fun j => j = rvb) wr w') => show KRow w' (W k) (some ⟨gb, u * 5, none⟩) 1 (some r) from ⟨rfl, gb, u * 5, rv, rfl, fun j x e => kp.cu (hcell.out j x e) (hRne gb hgR), hrd.keepB kp (fun j e => hRne j (hPb j (hpth j e))), hRW gb hgR, fun j e => hRW j (hPb j (hpth j e))⟩)
          have hEnd := hide (hEnd0.out (some ⟨gb, u * 5, none⟩) 1 (rc - u) (W k) (fun j h => .inl h))
          have i2 : (0 : Int) ≤ (u : Int) ∧ (u : Int) ≤ (rc : Int) := by omega
          have hwu : IntKind.i64.wrap (((u + 1 : Nat) : Int) - 1) = (u : Int) := by rw [IntWalk.i64_in _ (by omega)]; omega
          have f5 := fz (3 + k * 6 + 5)
          obtain ⟨w3, hw3⟩ : ∃ w3, w3 = wr.setCell ⟨rvb, 3 + k * 6 + 5, none⟩ (.slice (some ⟨gb, u * 5, none⟩) 1 (rc - u)) := ⟨_, rfl⟩
          have kp3 : Keep (fun j => j = rvb) wr w3 := by rw [hw3]; exact (Keep.refl (fun j => j = rvb) wr).setCell (p := ⟨rvb, 3 + k * 6 + 5, none⟩) (.inl rfl) _
          have hc3 : ∀ o, (o < 3 + k * 6 ∨ 9 + k * 6 ≤ o) → ∀ v, wr.cell? ⟨rvb, o, none⟩ = some v → w3.cell? ⟨rvb, o, none⟩ = some v := fun o ho v h => by rw [hw3]; exact cu_set_off h (by omega)
          have zr3 : rvb < w3.heap.size := Nat.lt_of_lt_of_le zr kp3.size
          have hSr := hide (fun (w' : World) (hb : Below w3.heap.size w3 w') => hSr0.out w' (kp3.trans (Keep.new hb)) (fun o ho v hv => cu_below hb (hc3 o ho v hv) zr3))
          have hc3 := hide hc3
          have kp3 := hide kp3
          replace hT := hide hT
          replace hmax := hide hmax
          clear hl hkn hOwn hTold hOb hPb hkp0 hSr0 hEnd0 hNl hRW hRne hrd hpth hgR
          go_wp2_with fail
          simp only [← hw3]
          have s0 : w3.cell? ⟨rvb, 3 + k * 6, none⟩ = some (.bool true) := by rw [hw3]; exact cu_set_off s0 (by omega)
          have s1 : w3.cell? ⟨rvb, 3 + k * 6 + 1, none⟩ = some (.int .i64 (q.f : Int)) := by rw [hw3]; exact cu_set_off s1 (by omega)
          have s2 : w3.cell? ⟨rvb, 3 + k * 6 + 2, none⟩ = some (.int .i64 (q.t : Int)) := by rw [hw3]; exact cu_set_off s2 (by omega)
          have s3 : w3.cell? ⟨rvb, 3 + k * 6 + 3, none⟩ = some (.slice aw mw ac) := by rw [hw3]; exact cu_set_off s3 (by omega)
          have s4 : w3.cell? ⟨rvb, 3 + k * 6 + 4, none⟩ = some (.pointer (some ⟨rb, 0, none⟩)) := by rw [hw3]; exact cu_set_off s4 (by omega)
          have s5 : w3.cell? ⟨rvb, 3 + k * 6 + 5, none⟩ = some (.slice (some ⟨gb, u * 5, none⟩) 1 (rc - u)) := by rw [hw3]; exact World.cell?_setCell_same' _ _ _ (by rw [s5]; rfl)
          have fz : ∀ o, w3.frozen? ⟨rvb, o, none⟩ = false := fun o => by rw [hw3]; exact fu_set (fz o)
          have zr1 := zr
          replace zr := zr3
          have hz3 : w3.heap.size = wr.heap.size := by rw [hw3]; simp
          replace hw3 := hide hw3
          clear f5
          have key0 := hide (show ∀ w', Below w3.heap.size w3 w' → (fun w' => Below w3.heap.size w3 w' ∧ w'.cell? ⟨rvb, 3 + k * 6 + 1, none⟩ = some (.int .i64 (q.f : Int)) ∧ w'.cell? ⟨rvb, 3 + k * 6 + 2, none⟩ = some (.int .i64 (q.t : Int)) ∧ w'.cell? ⟨rvb, 3 + k * 6 + 3, none⟩ = some (.slice aw mw ac) ∧ w'.cell? ⟨rvb, 3 + k * 6 + 4, none⟩ = some (.pointer (some ⟨rb, 0, none⟩)) ∧ w'.frozen? ⟨rvb, 3 + k * 6 + 4, none⟩ = false) w' from fun w' hb => ⟨hb, cu_below hb s1 zr, cu_below hb s2 zr, cu_below hb s3 zr, cu_below hb s4 zr, fu_below hb (fz _) zr⟩)
          refine wp_region_end (S := (fun w' => Below w3.heap.size w3 w' ∧ w'.cell? ⟨rvb, 3 + k * 6 + 1, none⟩ = some (.int .i64 (q.f : Int)) ∧ w'.cell? ⟨rvb, 3 + k * 6 + 2, none⟩ = some (.int .i64 (q.t : Int)) ∧ w'.cell? ⟨rvb, 3 + k * 6 + 3, none⟩ = some (.slice aw mw ac) ∧ w'.cell? ⟨rvb, 3 + k * 6 + 4, none⟩ = some (.pointer (some ⟨rb, 0, none⟩)) ∧ w'.frozen? ⟨rvb, 3 + k * 6 + 4, none⟩ = false)) (t := 17) (by kernel_rfl) ?_ (fun hHeld hInv => ?_)
          · exact key0.out _ (below_drew _)
          replace hInv := hide hInv
          refine planE [0, 1, 2, 3, 4, 5, 6, 7, 8, 9, 10, 11, 12, 13] ?_
          iterate 14
            refine PlanE.take (v := ?_) (List.getElem?_toArray.trans rfl) (by kernel_rfl) (fun _ _ _ h => h) (Or.inl ⟨by rfl, ?_⟩) hInv.out (by assumption) (fun hInv' => ?_)
            rotate_left
            · intro w hSw; (try dsimp only at hSw); go_simp; (try with_reducible rfl)
            replace hInv := hide hInv'; clear hInv'; try simp only [Act.put, List.setIfInBounds_toArray, List.set_cons_zero, List.set_cons_succ]
          refine wpAnyE_one (i := 14) (List.getElem?_toArray.trans rfl) (by kernel_rfl) (fun K hK => ?_) hInv.out
          (go_simp; refine (hSr.out _ (hHeld.1)).mono ?_; rintro e wS ⟨rb2, R2, C2, rfl, hO, hR, hbS, hC, hRC⟩; have hSB := hHeld.1)
          have hHeld := key0.out _ (below_step hHeld.1 hbS)
          refine hK.out _ _ (fun _ => hHeld) (fun hInv' => ?_)
          clear hK K; replace hInv := hide (hInv' (by decide)); clear hInv'; try simp only [Act.put, List.setIfInBounds_toArray, List.set_cons_zero, List.set_cons_succ]
          refine planE [15, 16] ?_
          iterate 2
            refine PlanE.take (v := ?_) (List.getElem?_toArray.trans rfl) (by kernel_rfl) (fun _ _ _ h => h) (Or.inl ⟨by rfl, ?_⟩) hInv.out (by assumption) (fun hInv' => ?_)
            rotate_left
            · intro w hSw; (try dsimp only at hSw); go_simp; (try with_reducible rfl)
            replace hInv := hide hInv'; clear hInv'; try simp only [Act.put, List.setIfInBounds_toArray, List.set_cons_zero, List.set_cons_succ]
          refine wpAnyE_one (i := 17) (List.getElem?_toArray.trans rfl) (by kernel_rfl) (fun K hK => ?_) hInv.out
          (try dsimp only at hHeld); go_simp
          refine hK.out _ _ (fun h => absurd rfl h) (fun _ => ?_)
          clear hK K hInv; try simp only [Act.put, List.setIfInBounds_toArray, List.set_cons_zero, List.set_cons_succ]
          refine wpAnyE_done (by kernel_rfl) ?_ _
          have y3 := hbS.size
          have y4 := hSB.size
          have hbS2 := below_step hSB hbS
          have zS : rvb < wS.heap.size := by omega
          have u0 := cu_below hbS2 s0 zr
          have u1 := cu_below hbS2 s1 zr
          have u2 := cu_below hbS2 s2 zr
          have u3 := cu_below hbS2 s3 zr
          have u4 := cu_below hbS2 s4 zr
          have u5 := cu_below hbS2 s5 zr
          have kpS : Keep (fun j => j = rvb) wr (wS.setCell ⟨rvb, 3 + k * 6 + 4, none⟩ (.pointer (some ⟨rb2, 0, none⟩))) := (kp3.out.trans (Keep.new hbS2)).setCell (.inl rfl) _
          have hfin := hide (hEnd.out _ rb2 R2 C2 kpS (fun o ho v hv => cu_set_off (cu_below hbS2 (hc3.out o ho v hv) zr) (by omega)) (fun j u hu => by
            have hj : j < 6 := by have := (List.getElem?_eq_some_iff.1 hu).1; simpa [encA] using this
            match j, hj with
            | 0, _ => cases hu; exact cu_set_off u0 (by omega)
            | 1, _ => cases hu; exact cu_set_off u1 (by omega)
            | 2, _ => cases hu; exact cu_set_off u2 (by omega)
            | 3, _ => cases hu; exact cu_set_off u3 (by omega)
            | 4, _ => cases hu; exact World.cell?_setCell_same' _ _ _ (by rw [u4]; rfl)
            | 5, _ => cases hu; exact cu_set_off u5 (by omega)) (fun o => fu_set (fu_below hbS2 (fz o) zr)) (hO.keep ((Keep.refl (fun j => j = rvb) wS).setCell (p := ⟨rvb, 3 + k * 6 + 4, none⟩) (.inl rfl) _) (fun j hj e => by
              rcases hj with hj | hj
              · have := hR j hj; omega
              · rcases hC j hj with q | ⟨o, q⟩
                · omega
                · exact hwb.out j o q e)) (fun j hj => by have := hR j hj; omega) (fun j hj => by
              rcases hC j hj with q | ⟨o, q⟩
              · exact .inr ⟨by omega, by simp; omega⟩
              · exact .inl (hwN.out j o q)) hRC (hKr.out _ kpS))
          clear hO hR hC hRC hbS hSB hbS2 u0 u1 u2 u3 u4 u5 kpS hHeld key0 hEnd hSr
          go_wp2
          go_roundw
          case rel => exact ⟨k + 1, by omega, by go_num, by first | exact hfin | exact hide (hfin.out.stays (below_drew _))⟩
          case measure => simp [intOf]; omega
    · obtain rfl : k = 6 := by omega
      go_wp2
      go_ret
      exact ⟨rfl, by first | exact hDone.out _ hE.out | exact hDone.out _ (hE.out.stays (below_drew _))⟩
end Go.Proofs.YtccailcjclbhlaaGreat
