/-
  A part of the proof of ServePlays: SvW SvL Upto RwI
-/
import Derived.Test.YtccailcjclbhlaaGreatServePlaysA19
import Derived.Test.YtccailcjclbhlaaGreatServePlaysA20
import Derived.Deep.CutBlock
import Derived.Test.YtccailcjclbhlaaGreatRows
import Derived.Test.YtccailcjclbhlaaGreatServePlaysA2
import Derived.JoinedCond
/-! The document's Poll: what it answers. No condition. -/
namespace Go.Proofs.YtccailcjclbhlaaGreat
open Go.RowKit
set_option linter.unusedSimpArgs false
set_option linter.unusedVariables false
section
variable {σ : Sv} {rvb : Nat} {P : Nat → Prop} {w : World}
theorem rpoll_none (hP : RSv σ rvb P w) (id : Int) (hq : σ.at id = none) :
    Calls Tryz.prog 21 #[.pointer (some ⟨rvb, 0, none⟩), .int .i64 id] w (PollAns (0, rd0, 5) w) := by
  have hF := hide (fun (w' : World) => PollAns.none 0 5 w w')
  have hI := hide (fun (w' : World) (hb : Below w.heap.size w w') => ris_any (hP.stays hb) id)
  rw [hq] at hI
  replace hI : Hid (∀ w' : World, Below w.heap.size w w' → Calls Tryz.prog 31 #[.pointer (some ⟨rvb, 0, none⟩), .int .i64 id] w' fun e w'' => e = .returned (.bool false) ∧ Below w'.heap.size w' w'') := hI
  clear hP hq
  go_enter Tryz.func21, Tryz.ntmps21
  go_wp2_with fail
  refine (hI.out _ (by exact bel)).mono ?_
  rintro e w1 ⟨rfl, hb1⟩
  have j0 := cu_below hb1 (p := ⟨w.heap.size, 0, none⟩) (v := .int .i64 0) (by simp [go_sem]) (by simp)
  have f0 := fu_below hb1 (p := ⟨w.heap.size, 0, none⟩) (by simp [go_sem]) (by simp)
  have j1 := cu_below hb1 (p := ⟨w.heap.size, 1, none⟩) (v := .int .i64 0) (by simp [go_sem]) (by simp)
  have f1 := fu_below hb1 (p := ⟨w.heap.size, 1, none⟩) (by simp [go_sem]) (by simp)
  have j2 := cu_below hb1 (p := ⟨w.heap.size, 2, none⟩) (v := .int .i64 0) (by simp [go_sem]) (by simp)
  have f2 := fu_below hb1 (p := ⟨w.heap.size, 2, none⟩) (by simp [go_sem]) (by simp)
  have j3 := cu_below hb1 (p := ⟨w.heap.size, 3, none⟩) (v := .slice none 0 0) (by simp [go_sem]) (by simp)
  have f3 := fu_below hb1 (p := ⟨w.heap.size, 3, none⟩) (by simp [go_sem]) (by simp)
  have j4 := cu_below hb1 (p := ⟨w.heap.size, 4, none⟩) (v := .int .i64 0) (by simp [go_sem]) (by simp)
  have f4 := fu_below hb1 (p := ⟨w.heap.size, 4, none⟩) (by simp [go_sem]) (by simp)
  have j5 := cu_below hb1 (p := ⟨w.heap.size, 5, none⟩) (v := .int .i64 0) (by simp [go_sem]) (by simp)
  have f5 := fu_below hb1 (p := ⟨w.heap.size, 5, none⟩) (by simp [go_sem]) (by simp)
  have zw : w.heap.size < w1.heap.size := cell_lt j0
  have hb2 : Below w.heap.size w w1 := ((Below.refl _ _).alloc (Nat.le_refl _) _).trans (hb1.mono (by simp))
  clear hb1
  go_wp2
  refine bodyPost_ret (v := .tuple #[.agg #[.int .i64 0, .int .i64 0, .int .i64 0, .slice none 0 0, .int .i64 0, .int .i64 0], .int .i64 5]) (by simp [results, Tryz.results21, go_sem, j0, j1, j2, j3, j4, j5, zw]) rfl (hF.out _ (by exact bel))
set_option maxRecDepth 100000 in
set_option maxHeartbeats 4000000 in
theorem rpoll_some (hP : RSv σ rvb P w) (k : Nat) (hk : k < 6) {q : Sq} (hq : σ.sl k = some q) :
    Calls Tryz.prog 21 #[.pointer (some ⟨rvb, 0, none⟩), .int .i64 (k : Int)] w (PollAns (pollQ (some q)) w) := by
  have hI := hide (fun (w' : World) (hb : Below w.heap.size w w') => show Calls Tryz.prog 31 #[.pointer (some ⟨rvb, 0, none⟩), .int .i64 (k : Int)] w' fun e w'' => e = .returned (.bool true) ∧ Below w'.heap.size w' w'' from by
    have h := ris_any (hP.stays hb) (k : Int)
    rw [at_in hk, hq] at h
    exact h)
  obtain ⟨hok, hlt, ga, gc, xs, W, N, hX, hin⟩ := hP
  have i1 : (0 : Int) ≤ (k : Int) ∧ (k : Int) < 6 := by omega
  obtain ⟨rb, R, C, hQ⟩ := hX.someAt hk hq
  obtain ⟨s0, s1, s2, s3, s4, s5⟩ := hX.six hk
  rw [hQ.a4] at s4
  have zs : rvb < w.heap.size := cell_lt s0
  obtain ⟨hRr, ar, aw2, rc, wc, ros, t5, t12, hOwn, hTold, hOb, hPb⟩ := hQ.obj.toldOwn
  have zb : rb < w.heap.size := cell_lt t5
  obtain ⟨hinv, htl, h8, h1, hn⟩ := hQ.obj.inv
  have hkr := hQ.kp
  obtain ⟨T, hT⟩ : ∃ T, T = q.s.told.length := ⟨_, rfl⟩
  obtain ⟨m, hm⟩ : ∃ m, m = q.ws.length := ⟨_, rfl⟩
  rw [← hT] at t12 htl hOwn
  rw [← hm] at t5 htl h8 h1
  have hOv := hide (fun (w' : World) (hb : Below w.heap.size w w') => rover_any rb T rc m wc ar aw2 w' (cu_below hb t12 zb) (cu_below hb t5 zb))
  obtain ⟨is, his⟩ : ∃ v, v = (xs k).is := ⟨_, rfl⟩
  obtain ⟨xf, hxf⟩ : ∃ v, v = (xs k).f := ⟨_, rfl⟩
  obtain ⟨xt, hxt⟩ : ∃ v, v = (xs k).t := ⟨_, rfl⟩
  obtain ⟨aw, haw⟩ : ∃ v, v = (xs k).aw := ⟨_, rfl⟩
  obtain ⟨am, ham⟩ : ∃ v, v = (xs k).am := ⟨_, rfl⟩
  obtain ⟨ac, hac⟩ : ∃ v, v = (xs k).ac := ⟨_, rfl⟩
  obtain ⟨ka, hka⟩ : ∃ v, v = (xs k).ka := ⟨_, rfl⟩
  obtain ⟨km, hkm⟩ : ∃ v, v = (xs k).km := ⟨_, rfl⟩
  obtain ⟨kc, hkc⟩ : ∃ v, v = (xs k).kc := ⟨_, rfl⟩
  rw [← his] at s0
  rw [← hxf] at s1
  rw [← hxt] at s2
  rw [← haw, ← ham, ← hac] at s3
  rw [← hka, ← hkm, ← hkc] at s5
  rw [← hka, ← hkm] at hkr
  clear his hxf hxt haw ham hac hka hkm hkc
  cases hl : q.s.told.getLast? with
  | some r =>
    have hpq := hide (show pollQ (some q) = (if T = m then 4 else 2, r, 0) by unfold pollQ; simp only [hl, hT, hm])
    obtain ⟨gb, u, rv, hga, hTu, hucap, hmax, zg, hcell, hrd, hpth⟩ := told_last hOwn hTold hT.symm hl
    subst hga
    subst hTu
    have d0 := hcell 0 _ rfl
    have d1 := hcell 1 _ rfl
    have d2 := hcell 2 _ rfl
    have d3 := hcell 3 _ rfl
    have d4 := hcell 4 _ rfl
    rw [Nat.add_zero] at d0
    have hpa := hrd.2.2.2.2.2
    have hpl := hide hpa.block_lt
    have hrw := hide (show ∀ (st : Int) (w1 w' : World), st = (if u + 1 = m then 4 else 2) → Below w.heap.size w w1 → Keep (fun j => w.heap.size ≤ j) w1 w' → PollAns (pollQ (some q)) w (.returned (.tuple #[.agg #[.int .i64 st, .int .i64 rv.na, .int .i64 rv.nb, .slice rv.pa rv.pm rv.pc, .int .i64 rv.rc, .int .i64 rv.dn], .int .i64 0])) w' from fun st w1 w' hst hb kp => by
      rw [hpq.out, ← hst]
      obtain ⟨pa, pc, hev, hrow, -, -⟩ := hpa.row lenI
      have kp2 : Keep (fun j => w.heap.size ≤ j) w w' := (Keep.new hb).trans kp
      refine ⟨rv.pa, rv.pm, rv.pc, by rw [hrd.1, hrd.2.1, hrd.2.2.1, hrd.2.2.2.1], hrd.2.2.2.2.1.symm, ?_, kp2.toBelow (fun _ h => h) (Nat.le_refl _)⟩
      simp only [Value.slice.injEq] at hev
      rw [hev.1]
      exact (row_keep hrow kp2 (fun b o e e2 => by have := (hpl.out b (by rw [hev.1, e]; rfl)).2; omega)).mono kp2.size)
    have i2 : (0 : Int) ≤ (u : Int) ∧ (u : Int) < ((u + 1 : Nat) : Int) := by omega
    have hwu : IntKind.i64.wrap (((u + 1 : Nat) : Int) - 1) = (u : Int) := by rw [IntWalk.i64_in _ (by omega)]; omega
    have q6 : (0 < ((u + 1 : Nat) : Int)) = True := by simp
    have hwu2 : wrap64 (u : Int) = (u : Int) := IntWalk.wrap64_in _ (by omega)
    replace hT := hide hT
    replace hm := hide hm
    replace hmax := hide hmax
    clear hQ hl hinv hn hX hin hok hlt hq hkr hOwn hTold hOb hPb hcell hrd hpa hpth hRr htl hpq
    go_enter Tryz.func21, Tryz.ntmps21
    go_wp2_with fail
    refine (hI.out _ (by exact bel)).mono ?_
    rintro e w1 ⟨rfl, hb1⟩
    have j0 := cu_below hb1 (p := ⟨w.heap.size, 0, none⟩) (v := .int .i64 0) (by simp [go_sem]) (by simp)
    have f0 := fu_below hb1 (p := ⟨w.heap.size, 0, none⟩) (by simp [go_sem]) (by simp)
    have j1 := cu_below hb1 (p := ⟨w.heap.size, 1, none⟩) (v := .int .i64 0) (by simp [go_sem]) (by simp)
    have f1 := fu_below hb1 (p := ⟨w.heap.size, 1, none⟩) (by simp [go_sem]) (by simp)
    have j2 := cu_below hb1 (p := ⟨w.heap.size, 2, none⟩) (v := .int .i64 0) (by simp [go_sem]) (by simp)
    have f2 := fu_below hb1 (p := ⟨w.heap.size, 2, none⟩) (by simp [go_sem]) (by simp)
    have j3 := cu_below hb1 (p := ⟨w.heap.size, 3, none⟩) (v := .slice none 0 0) (by simp [go_sem]) (by simp)
    have f3 := fu_below hb1 (p := ⟨w.heap.size, 3, none⟩) (by simp [go_sem]) (by simp)
    have j4 := cu_below hb1 (p := ⟨w.heap.size, 4, none⟩) (v := .int .i64 0) (by simp [go_sem]) (by simp)
    have f4 := fu_below hb1 (p := ⟨w.heap.size, 4, none⟩) (by simp [go_sem]) (by simp)
    have j5 := cu_below hb1 (p := ⟨w.heap.size, 5, none⟩) (v := .int .i64 0) (by simp [go_sem]) (by simp)
    have f5 := fu_below hb1 (p := ⟨w.heap.size, 5, none⟩) (by simp [go_sem]) (by simp)
    have zw : w.heap.size < w1.heap.size := cell_lt j0
    have hb2 : Below w.heap.size w w1 := ((Below.refl _ _).alloc (Nat.le_refl _) _).trans (hb1.mono (by simp))
    have s0 := cu_below hb2 s0 zs
    have s1 := cu_below hb2 s1 zs
    have s2 := cu_below hb2 s2 zs
    have s3 := cu_below hb2 s3 zs
    have s4 := cu_below hb2 s4 zs
    have s5 := cu_below hb2 s5 zs
    have t12 := cu_below hb2 t12 zb
    have d0 := cu_below hb2 d0 zg
    have d1 := cu_below hb2 d1 zg
    have d2 := cu_below hb2 d2 zg
    have d3 := cu_below hb2 d3 zg
    have d4 := cu_below hb2 d4 zg
    have zs1 : rvb < w1.heap.size := by omega
    have zb1 : rb < w1.heap.size := by omega
    have zg1 : gb < w1.heap.size := by omega
    obtain ⟨b6, hb6⟩ : ∃ b6, b6 = w1.heap.size := ⟨_, rfl⟩
    obtain ⟨w8, hw8⟩ : ∃ w8, w8 = w1.alloc (.cells #[.bool is, .int .i64 xf, .int .i64 xt, .slice aw am ac, .pointer (some ⟨rb, 0, none⟩), .slice ka km kc] 46) := ⟨_, rfl⟩
    have hb18 : Below w1.heap.size w1 w8 := by rw [hw8]; exact (Below.refl _ _).alloc (Nat.le_refl _) _
    have g4 : w8.cell? ⟨b6, 4, none⟩ = some (.pointer (some ⟨rb, 0, none⟩)) := by rw [hw8, hb6]; simp [go_sem]
    go_upto_region 4 with fail
    simp only [← hw8]
    simp only [← hb6]
    have zw8 : b6 < w8.heap.size := cell_lt g4
    have j0 := cu_below hb18 j0 zw
    have f0 := fu_below hb18 f0 zw
    have j1 := cu_below hb18 j1 zw
    have f1 := fu_below hb18 f1 zw
    have j2 := cu_below hb18 j2 zw
    have f2 := fu_below hb18 f2 zw
    have j3 := cu_below hb18 j3 zw
    have f3 := fu_below hb18 f3 zw
    have j4 := cu_below hb18 j4 zw
    have f4 := fu_below hb18 f4 zw
    have j5 := cu_below hb18 j5 zw
    have f5 := fu_below hb18 f5 zw
    have t12 := cu_below hb18 t12 zb1
    have d0 := cu_below hb18 d0 zg1
    have d1 := cu_below hb18 d1 zg1
    have d2 := cu_below hb18 d2 zg1
    have d3 := cu_below hb18 d3 zg1
    have d4 := cu_below hb18 d4 zg1
    have zw9 : w.heap.size < w8.heap.size := by omega
    have zb8 : rb < w8.heap.size := by omega
    have zg8 : gb < w8.heap.size := by omega
    have hb28 := hb2.trans (hb18.mono hb2.size)
    have hOv2 := hide (hOv.out w8 hb28)
    have hFin := hide (fun (st : Int) (w' : World) (hst : st = (if u + 1 = m then 4 else 2)) (kp : Keep (fun j => w.heap.size ≤ j) w8 w') => hrw.out st w8 w' hst hb28 kp)
    replace hw8 := hide hw8
    replace hb6 := hide hb6
    clear hb1 hb2 hb18 hb28 s0 s1 s2 s3 s4 s5 hOv hrw
    go_wp2_with fail
    refine hOv2.out.mono ?_
    rintro e w9 ⟨rfl, kk, rfl⟩
    have j0 := cu_drewN (n := kk) j0
    have f0 := fu_drewN (n := kk) f0
    have j1 := cu_drewN (n := kk) j1
    have f1 := fu_drewN (n := kk) f1
    have j2 := cu_drewN (n := kk) j2
    have f2 := fu_drewN (n := kk) f2
    have j3 := cu_drewN (n := kk) j3
    have f3 := fu_drewN (n := kk) f3
    have j4 := cu_drewN (n := kk) j4
    have f4 := fu_drewN (n := kk) f4
    have j5 := cu_drewN (n := kk) j5
    have f5 := fu_drewN (n := kk) f5
    have t12 := cu_drewN (n := kk) t12
    have d0 := cu_drewN (n := kk) d0
    have d1 := cu_drewN (n := kk) d1
    have d2 := cu_drewN (n := kk) d2
    have d3 := cu_drewN (n := kk) d3
    have d4 := cu_drewN (n := kk) d4
    have g4 := cu_drewN (n := kk) g4
    have kp9 : Keep (fun j => w.heap.size ≤ j) w8 (w8.drewN kk) := (Keep.refl _ _).drewN kk
    have hz9 : (w8.drewN kk).heap.size = w8.heap.size := by simp
    obtain ⟨w9, hw9⟩ : ∃ w9, w9 = w8.drewN kk := ⟨_, rfl⟩
    rw [← hw9] at j0 j1 j2 j3 j4 j5 f0 f1 f2 f3 f4 f5 t12 d0 d1 d2 d3 d4 g4 kp9 hz9
    simp only [← hw9]
    have zw10 : w.heap.size < w9.heap.size := by omega
    have zb9 : b6 < w9.heap.size := by omega
    have zr9 : rb < w9.heap.size := by omega
    have zg9 : gb < w9.heap.size := by omega
    replace hw9 := hide hw9
    by_cases hTm : u + 1 = m
    · have q7 : (((u + 1 : Nat) : Int) == (m : Int)) = true := by simp; omega
      have hst : (4 : Int) = (if u + 1 = m then 4 else 2) := by rw [if_pos hTm]
      replace hst := hide hst
      clear hTm
      go_wp2
      refine bodyPost_ret (v := .tuple #[.agg #[.int .i64 4, .int .i64 rv.na, .int .i64 rv.nb, .slice rv.pa rv.pm rv.pc, .int .i64 rv.rc, .int .i64 rv.dn], .int .i64 0]) (by simp [results, Tryz.results21, go_sem, j0, j1, j2, j3, j4, j5, zw10]) rfl (hFin.out 4 _ hst.out (by repeat (first | with_reducible exact Keep.refl _ _ | with_reducible assumption | with_reducible refine Keep.drewN ?_ _ | with_reducible refine Keep.drew ?_ | with_reducible refine Keep.alloc ?_ _ | (with_reducible refine Keep.setCell ?_ ?_ _; rotate_left; (first | exact .inl (Nat.le_refl _) | (right; simp; done) | (right; simp; omega))))))
    · have q7 : (((u + 1 : Nat) : Int) == (m : Int)) = false := by simp; omega
      have hst : (2 : Int) = (if u + 1 = m then 4 else 2) := by rw [if_neg hTm]
      replace hst := hide hst
      clear hTm
      go_wp2
      refine bodyPost_ret (v := .tuple #[.agg #[.int .i64 2, .int .i64 rv.na, .int .i64 rv.nb, .slice rv.pa rv.pm rv.pc, .int .i64 rv.rc, .int .i64 rv.dn], .int .i64 0]) (by simp [results, Tryz.results21, go_sem, j0, j1, j2, j3, j4, j5, zw10]) rfl (hFin.out 2 _ hst.out (by repeat (first | with_reducible exact Keep.refl _ _ | with_reducible assumption | with_reducible refine Keep.drewN ?_ _ | with_reducible refine Keep.drew ?_ | with_reducible refine Keep.alloc ?_ _ | (with_reducible refine Keep.setCell ?_ ?_ _; rotate_left; (first | exact .inl (Nat.le_refl _) | (right; simp; done) | (right; simp; omega))))))
  | none =>
    have hT0 : T = 0 := by rw [hT]; cases h : q.s.told with | nil => rfl | cons y l => rw [h] at hl; simp at hl
    subst hT0
    cases hkq : q.kept with
    | none =>
      have hpq := hide (show pollQ (some q) = (1, rd0, 0) by unfold pollQ; simp only [hl, hkq])
      rw [hkq] at hkr
      have hkm0 : km = 0 := hkr
      subst hkm0
      have hF := hide (fun (w' : World) (hb : Below w.heap.size w w') => show PollAns (pollQ (some q)) w _ w' from by rw [hpq.out]; exact PollAns.none 1 0 w w' hb)
      clear hQ hl hinv hn hX hin hok hlt hq hkr hkq hOwn hTold hOb hPb hRr htl hpq hOv hT hm h8 h1
      go_enter Tryz.func21, Tryz.ntmps21
      go_wp2_with fail
      refine (hI.out _ (by exact bel)).mono ?_
      rintro e w1 ⟨rfl, hb1⟩
      have j0 := cu_below hb1 (p := ⟨w.heap.size, 0, none⟩) (v := .int .i64 0) (by simp [go_sem]) (by simp)
      have f0 := fu_below hb1 (p := ⟨w.heap.size, 0, none⟩) (by simp [go_sem]) (by simp)
      have j1 := cu_below hb1 (p := ⟨w.heap.size, 1, none⟩) (v := .int .i64 0) (by simp [go_sem]) (by simp)
      have f1 := fu_below hb1 (p := ⟨w.heap.size, 1, none⟩) (by simp [go_sem]) (by simp)
      have j2 := cu_below hb1 (p := ⟨w.heap.size, 2, none⟩) (v := .int .i64 0) (by simp [go_sem]) (by simp)
      have f2 := fu_below hb1 (p := ⟨w.heap.size, 2, none⟩) (by simp [go_sem]) (by simp)
      have j3 := cu_below hb1 (p := ⟨w.heap.size, 3, none⟩) (v := .slice none 0 0) (by simp [go_sem]) (by simp)
      have f3 := fu_below hb1 (p := ⟨w.heap.size, 3, none⟩) (by simp [go_sem]) (by simp)
      have j4 := cu_below hb1 (p := ⟨w.heap.size, 4, none⟩) (v := .int .i64 0) (by simp [go_sem]) (by simp)
      have f4 := fu_below hb1 (p := ⟨w.heap.size, 4, none⟩) (by simp [go_sem]) (by simp)
      have j5 := cu_below hb1 (p := ⟨w.heap.size, 5, none⟩) (v := .int .i64 0) (by simp [go_sem]) (by simp)
      have f5 := fu_below hb1 (p := ⟨w.heap.size, 5, none⟩) (by simp [go_sem]) (by simp)
      have zw : w.heap.size < w1.heap.size := cell_lt j0
      have hb2 : Below w.heap.size w w1 := ((Below.refl _ _).alloc (Nat.le_refl _) _).trans (hb1.mono (by simp))
      have s0 := cu_below hb2 s0 zs
      have s1 := cu_below hb2 s1 zs
      have s2 := cu_below hb2 s2 zs
      have s3 := cu_below hb2 s3 zs
      have s4 := cu_below hb2 s4 zs
      have s5 := cu_below hb2 s5 zs
      have t12 := cu_below hb2 t12 zb
      have zs1 : rvb < w1.heap.size := by omega
      have zb1 : rb < w1.heap.size := by omega
      have hF2 := hide (fun (w' : World) (kp : Keep (fun j => w.heap.size ≤ j) w1 w') => hF.out w' (((Keep.new hb2).trans kp).toBelow (fun _ h => h) (Nat.le_refl _)))
      clear hb1 hb2 hF
      go_wp2
      refine bodyPost_ret (v := .tuple #[.agg #[.int .i64 1, .int .i64 0, .int .i64 0, .slice none 0 0, .int .i64 0, .int .i64 0], .int .i64 0]) (by simp [results, Tryz.results21, go_sem, j0, j1, j2, j3, j4, j5, zw]) rfl (hF2.out _ (by repeat (first | with_reducible exact Keep.refl _ _ | with_reducible assumption | with_reducible refine Keep.drewN ?_ _ | with_reducible refine Keep.drew ?_ | with_reducible refine Keep.alloc ?_ _ | (with_reducible refine Keep.setCell ?_ ?_ _; rotate_left; (first | exact .inl (Nat.le_refl _) | (right; simp; done) | (right; simp; omega))))))
    | some r =>
      have hpq := hide (show pollQ (some q) = (3, r, 0) by unfold pollQ; simp only [hl, hkq])
      rw [hkq] at hkr
      obtain ⟨hkm1, gb, ko, rv, hka2, hcell, hrd, -, -⟩ := hkr
      subst hkm1
      subst hka2
      have d0 := hcell 0 _ rfl
      have d1 := hcell 1 _ rfl
      have d2 := hcell 2 _ rfl
      have d3 := hcell 3 _ rfl
      have d4 := hcell 4 _ rfl
      rw [Nat.add_zero] at d0
      have zg : gb < w.heap.size := cell_lt d0
      have hpa := hrd.2.2.2.2.2
      have hpl := hide hpa.block_lt
      have hrw := hide (show ∀ (w1 w' : World), Below w.heap.size w w1 → Keep (fun j => w.heap.size ≤ j) w1 w' → PollAns (pollQ (some q)) w (.returned (.tuple #[.agg #[.int .i64 3, .int .i64 rv.na, .int .i64 rv.nb, .slice rv.pa rv.pm rv.pc, .int .i64 rv.rc, .int .i64 rv.dn], .int .i64 0])) w' from fun w1 w' hb kp => by
        rw [hpq.out]
        obtain ⟨pa, pc, hev, hrow, -, -⟩ := hpa.row lenI
        have kp2 : Keep (fun j => w.heap.size ≤ j) w w' := (Keep.new hb).trans kp
        refine ⟨rv.pa, rv.pm, rv.pc, by rw [hrd.1, hrd.2.1, hrd.2.2.1, hrd.2.2.2.1], hrd.2.2.2.2.1.symm, ?_, kp2.toBelow (fun _ h => h) (Nat.le_refl _)⟩
        simp only [Value.slice.injEq] at hev
        rw [hev.1]
        exact (row_keep hrow kp2 (fun b o e e2 => by have := (hpl.out b (by rw [hev.1, e]; rfl)).2; omega)).mono kp2.size)
      clear hQ hl hinv hn hX hin hok hlt hq hkq hOwn hTold hOb hPb hRr htl hpq hOv hT hm h8 h1 hcell hrd hpa
      go_enter Tryz.func21, Tryz.ntmps21
      go_wp2_with fail
      refine (hI.out _ (by exact bel)).mono ?_
      rintro e w1 ⟨rfl, hb1⟩
      have j0 := cu_below hb1 (p := ⟨w.heap.size, 0, none⟩) (v := .int .i64 0) (by simp [go_sem]) (by simp)
      have f0 := fu_below hb1 (p := ⟨w.heap.size, 0, none⟩) (by simp [go_sem]) (by simp)
      have j1 := cu_below hb1 (p := ⟨w.heap.size, 1, none⟩) (v := .int .i64 0) (by simp [go_sem]) (by simp)
      have f1 := fu_below hb1 (p := ⟨w.heap.size, 1, none⟩) (by simp [go_sem]) (by simp)
      have j2 := cu_below hb1 (p := ⟨w.heap.size, 2, none⟩) (v := .int .i64 0) (by simp [go_sem]) (by simp)
      have f2 := fu_below hb1 (p := ⟨w.heap.size, 2, none⟩) (by simp [go_sem]) (by simp)
      have j3 := cu_below hb1 (p := ⟨w.heap.size, 3, none⟩) (v := .slice none 0 0) (by simp [go_sem]) (by simp)
      have f3 := fu_below hb1 (p := ⟨w.heap.size, 3, none⟩) (by simp [go_sem]) (by simp)
      have j4 := cu_below hb1 (p := ⟨w.heap.size, 4, none⟩) (v := .int .i64 0) (by simp [go_sem]) (by simp)
      have f4 := fu_below hb1 (p := ⟨w.heap.size, 4, none⟩) (by simp [go_sem]) (by simp)
      have j5 := cu_below hb1 (p := ⟨w.heap.size, 5, none⟩) (v := .int .i64 0) (by simp [go_sem]) (by simp)
      have f5 := fu_below hb1 (p := ⟨w.heap.size, 5, none⟩) (by simp [go_sem]) (by simp)
      have zw : w.heap.size < w1.heap.size := cell_lt j0
      have hb2 : Below w.heap.size w w1 := ((Below.refl _ _).alloc (Nat.le_refl _) _).trans (hb1.mono (by simp))
      have s0 := cu_below hb2 s0 zs
      have s1 := cu_below hb2 s1 zs
      have s2 := cu_below hb2 s2 zs
      have s3 := cu_below hb2 s3 zs
      have s4 := cu_below hb2 s4 zs
      have s5 := cu_below hb2 s5 zs
      have t12 := cu_below hb2 t12 zb
      have d0 := cu_below hb2 d0 zg
      have d1 := cu_below hb2 d1 zg
      have d2 := cu_below hb2 d2 zg
      have d3 := cu_below hb2 d3 zg
      have d4 := cu_below hb2 d4 zg
      have zs1 : rvb < w1.heap.size := by omega
      have zb1 : rb < w1.heap.size := by omega
      have zg1 : gb < w1.heap.size := by omega
      have hF2 := hide (fun (w' : World) (kp : Keep (fun j => w.heap.size ≤ j) w1 w') => hrw.out w1 w' hb2 kp)
      clear hb1 hb2 hrw
      go_wp2
      refine bodyPost_ret (v := .tuple #[.agg #[.int .i64 3, .int .i64 rv.na, .int .i64 rv.nb, .slice rv.pa rv.pm rv.pc, .int .i64 rv.rc, .int .i64 rv.dn], .int .i64 0]) (by simp [results, Tryz.results21, go_sem, j0, j1, j2, j3, j4, j5, zw]) rfl (hF2.out _ (by repeat (first | with_reducible exact Keep.refl _ _ | with_reducible assumption | with_reducible refine Keep.drewN ?_ _ | with_reducible refine Keep.drew ?_ | with_reducible refine Keep.alloc ?_ _ | (with_reducible refine Keep.setCell ?_ ?_ _; rotate_left; (first | exact .inl (Nat.le_refl _) | (right; simp; done) | (right; simp; omega))))))
theorem rpoll_any (hP : RSv σ rvb P w) (id : Int) :
    Calls Tryz.prog 21 #[.pointer (some ⟨rvb, 0, none⟩), .int .i64 id] w (PollAns (pollQ (σ.at id)) w) := by
  cases hq : σ.at id with
  | none => exact rpoll_none hP id hq
  | some q =>
    have hr : 0 ≤ id ∧ id < 6 := Classical.byContradiction fun hc => by rw [at_out (by omega)] at hq; cases hq
    obtain ⟨k, rfl⟩ := Int.eq_ofNat_of_zero_le hr.1
    have hk : k < 6 := by omega
    rw [at_in hk] at hq
    exact rpoll_some hP k hk hq
end
end Go.Proofs.YtccailcjclbhlaaGreat
/-! The walk of felllaw.ServePlays: it returns true. Conditions: bounds on lengths. -/
namespace Go.Proofs.YtccailcjclbhlaaGreat
open Go.RowKit
set_option linter.unusedSimpArgs false
set_option linter.unusedVariables false
/-- the two services side by side: each its own -/
structure Du (σ τ : Sv) (svb rvb B : Nat) (P Q : Nat → Prop) (w : World) : Prop where
  p : PSv σ svb P w
  q : RSv τ rvb Q w
  d : ∀ j, P j → ¬ Q j
  b : ∀ j, P j ∨ Q j → B ≤ j
section
variable {σ τ σ' τ' : Sv} {svb rvb B : Nat} {P Q : Nat → Prop} {w w' : World}
theorem Du.stays (h : Du σ τ svb rvb B P Q w) (hb : Below w.heap.size w w') : Du σ τ svb rvb B P Q w' := ⟨h.p.stays hb, h.q.stays hb, h.d, h.b⟩
theorem Du.onP (h : Du σ τ svb rvb B P Q w) (hB : B ≤ w.heap.size) (hL : PLeft σ' svb P w w') : Du σ' τ svb rvb B (grown P w w') Q w' ∧ Below B w w' := by
  refine ⟨⟨hL.1, h.q.keep hL.2 (fun j hq hp => h.d j hp hq), fun j hj hq => ?_, fun j hj => ?_⟩, hL.2.toBelow (fun k hk => h.b k (.inl hk)) hB⟩
  · rcases hj with hj | hj
    · exact h.d j hj hq
    · have := h.q.2.1 j hq; omega
  · rcases hj with (hj | hj) | hj
    · exact h.b j (.inl hj)
    · omega
    · exact h.b j (.inr hj)
theorem Du.onQ (h : Du σ τ svb rvb B P Q w) (hB : B ≤ w.heap.size) (hL : RLeft τ' rvb Q w w') : Du σ τ' svb rvb B P (grown Q w w') w' ∧ Below B w w' := by
  refine ⟨⟨h.p.keep hL.2 (fun j hp hq => h.d j hp hq), hL.1, fun j hp hj => ?_, fun j hj => ?_⟩, hL.2.toBelow (fun k hk => h.b k (.inr hk)) hB⟩
  · rcases hj with hj | hj
    · exact h.d j hp hj
    · have := h.p.2.1 j hp; omega
  · rcases hj with hj | hj | hj
    · exact h.b j (.inl hj)
    · exact h.b j (.inr hj)
    · omega
theorem du_ask1 (h : Du σ τ svb rvb B P Q w) (hB : B ≤ w.heap.size) (f t : Int) (aw : Option Addr) (m cw : Nat) (ws : List P2) (hm : ws.length = m) (hl : m ≤ 1048576) (hW : Row encP 2 w B aw ws) :
    Calls Tryz.prog 12 #[.pointer (some ⟨svb, 0, none⟩), .int .i64 f, .int .i64 t, .slice aw m cw] w fun e w' => ∃ n er σ' P', e = .returned (.tuple #[.int .i64 n, .int .i64 er]) ∧ AskIs σ f t ws n er σ' ∧ Du σ' τ svb rvb B P' Q w' ∧ Below B w w' := by
  refine (pask_any h.p f t aw m cw ws hm hl B hB hW).mono ?_
  rintro e w' ⟨n, er, σ', rfl, hA, hL⟩
  have h2 := h.onP hB hL
  exact ⟨n, er, σ', _, rfl, hA, h2.1, h2.2⟩
theorem du_ask2 (h : Du σ τ svb rvb B P Q w) (hB : B ≤ w.heap.size) (f t : Int) (aw : Option Addr) (m cw : Nat) (ws : List P2) (hm : ws.length = m) (hl : m ≤ 1048576) (hW : Row encP 2 w B aw ws) :
    Calls Tryz.prog 13 #[.pointer (some ⟨rvb, 0, none⟩), .int .i64 f, .int .i64 t, .slice aw m cw] w fun e w' => ∃ n er τ' Q', e = .returned (.tuple #[.int .i64 n, .int .i64 er]) ∧ AskIs τ f t ws n er τ' ∧ Du σ τ' svb rvb B P Q' w' ∧ Below B w w' := by
  refine (rask_any h.q f t aw m cw ws hm hl B hB hW).mono ?_
  rintro e w' ⟨n, er, σ', rfl, hA, hL⟩
  have h2 := h.onQ hB hL
  exact ⟨n, er, σ', _, rfl, hA, h2.1, h2.2⟩
theorem du_drop1 (h : Du σ τ svb rvb B P Q w) (hB : B ≤ w.heap.size) (id : Int) :
    Calls Tryz.prog 14 #[.pointer (some ⟨svb, 0, none⟩), .int .i64 id] w fun e w' => ∃ er σ' P', e = .returned (.int .i64 er) ∧ DropIs σ id er σ' ∧ Du σ' τ svb rvb B P' Q w' ∧ Below B w w' := by
  refine (pdrop_any h.p id).mono ?_
  rintro e w' ⟨er, σ', rfl, hA, hL⟩
  have h2 := h.onP hB hL
  exact ⟨er, σ', _, rfl, hA, h2.1, h2.2⟩
theorem du_drop2 (h : Du σ τ svb rvb B P Q w) (hB : B ≤ w.heap.size) (id : Int) :
    Calls Tryz.prog 15 #[.pointer (some ⟨rvb, 0, none⟩), .int .i64 id] w fun e w' => ∃ er τ' Q', e = .returned (.int .i64 er) ∧ DropIs τ id er τ' ∧ Du σ τ' svb rvb B P Q' w' ∧ Below B w w' := by
  refine (rdrop_any h.q id).mono ?_
  rintro e w' ⟨er, σ', rfl, hA, hL⟩
  have h2 := h.onQ hB hL
  exact ⟨er, σ', _, rfl, hA, h2.1, h2.2⟩
theorem du_edit1 (h : Du σ τ svb rvb B P Q w) (hB : B ≤ w.heap.size) (x g : Int) :
    Calls Tryz.prog 16 #[.pointer (some ⟨svb, 0, none⟩), .int .i64 x, .int .i64 g] w fun e w' => ∃ er σ' P', e = .returned (.int .i64 er) ∧ EditIs σ x g er σ' ∧ Du σ' τ svb rvb B P' Q w' ∧ Below B w w' := by
  refine (pedit_any h.p x g).mono ?_
  rintro e w' ⟨er, σ', rfl, hA, hL⟩
  have h2 := h.onP hB hL
  exact ⟨er, σ', _, rfl, hA, h2.1, h2.2⟩
theorem du_edit2 (h : Du σ τ svb rvb B P Q w) (hB : B ≤ w.heap.size) (x g : Int) :
    Calls Tryz.prog 17 #[.pointer (some ⟨rvb, 0, none⟩), .int .i64 x, .int .i64 g] w fun e w' => ∃ er τ' Q', e = .returned (.int .i64 er) ∧ EditIs τ x g er τ' ∧ Du σ τ' svb rvb B P Q' w' ∧ Below B w w' := by
  refine (redit_any h.q x g).mono ?_
  rintro e w' ⟨er, σ', rfl, hA, hL⟩
  have h2 := h.onQ hB hL
  exact ⟨er, σ', _, rfl, hA, h2.1, h2.2⟩
theorem du_frame1 (h : Du σ τ svb rvb B P Q w) (hB : B ≤ w.heap.size) (b : Int) :
    Calls Tryz.prog 18 #[.pointer (some ⟨svb, 0, none⟩), .int .i64 b] w fun e w' => ∃ n er σ' P', e = .returned (.tuple #[.int .i64 n, .int .i64 er]) ∧ FrameIs σ b n er σ' ∧ Du σ' τ svb rvb B P' Q w' ∧ Below B w w' := by
  refine (pframe_any h.p b).mono ?_
  rintro e w' ⟨n, er, σ', rfl, hA, hL⟩
  have h2 := h.onP hB hL
  exact ⟨n, er, σ', _, rfl, hA, h2.1, h2.2⟩
theorem du_frame2 (h : Du σ τ svb rvb B P Q w) (hB : B ≤ w.heap.size) (b : Int) :
    Calls Tryz.prog 19 #[.pointer (some ⟨rvb, 0, none⟩), .int .i64 b] w fun e w' => ∃ n er τ' Q', e = .returned (.tuple #[.int .i64 n, .int .i64 er]) ∧ FrameIs τ b n er τ' ∧ Du σ τ' svb rvb B P Q' w' ∧ Below B w w' := by
  refine (rframe_any h.q b).mono ?_
  rintro e w' ⟨n, er, σ', rfl, hA, hL⟩
  have h2 := h.onQ hB hL
  exact ⟨n, er, σ', _, rfl, hA, h2.1, h2.2⟩
end
/-- an answer by its parts -/
def PAns (st wa wb co dn er : Int) (p : List Int) (w : World) (e : Ending) (w' : World) : Prop := ∃ pa pm pc, e = .returned (.tuple #[.agg #[.int .i64 st, .int .i64 wa, .int .i64 wb, .slice pa pm pc, .int .i64 co, .int .i64 dn], .int .i64 er]) ∧ p.length = pm ∧ Row encI 1 w' w'.heap.size pa p ∧ Below w.heap.size w w'
theorem polls_any {σ : Sv} {svb rvb B : Nat} {P Q : Nat → Prop} {w : World} (hD : Du σ σ svb rvb B P Q w) (id : Int) : ∃ (st wa wb co dn er : Int) (pt : List Int),
    Calls Tryz.prog 20 #[.pointer (some ⟨svb, 0, none⟩), .int .i64 id] w (PAns st wa wb co dn er pt w) ∧
    (∀ w', Below w.heap.size w w' → Calls Tryz.prog 21 #[.pointer (some ⟨rvb, 0, none⟩), .int .i64 id] w' (PAns st wa wb co dn er pt w')) ∧
    ∀ (w' : World) (p1 p2 : Option Addr) (m c1 c2 : Nat), pt.length = m → Row encI 1 w' w'.heap.size p1 pt → Row encI 1 w' w'.heap.size p2 pt → Calls Tryz.prog 22 #[.agg #[.int .i64 st, .int .i64 wa, .int .i64 wb, .slice p1 m c1, .int .i64 co, .int .i64 dn], .agg #[.int .i64 st, .int .i64 wa, .int .i64 wb, .slice p2 m c2, .int .i64 co, .int .i64 dn]] w' fun e w'' => e = .returned (.bool true) ∧ Below w'.heap.size w' w'' :=
  ⟨_, _, _, _, _, _, _, ppoll_any hD.p id, fun w' hb => rpoll_any (hD.stays hb).q id, fun w' p1 p2 m c1 c2 hm h1 h2 => sameans_any (pollQ (σ.at id)) p1 p2 m c1 c2 w' hm (by rw [← hm]; exact hD.p.pollLen id) h1 h2⟩
/-- what stands between two calls -/
def Sd (svb rvb B : Nat) (w w' : World) : Prop := (∃ σ P Q, Du σ σ svb rvb B P Q w') ∧ Below B w w'
set_option maxRecDepth 100000 in
set_option maxHeartbeats 8000000 in
theorem served_any {σ : Sv} {svb rvb B : Nat} {P Q : Nat → Prop} {w : World} (hD0 : Du σ σ svb rvb B P Q w) (hB : B ≤ w.heap.size) (al : Option Addr) (ml cl : Nat) (ns : List Int) (hns : ns.length = ml) (hal : Row encI 1 w B al ns) (hml : ml ≤ 9223372036854775807) (aw : Option Addr) (mw cw : Nat) (ws : List P2) (hws : ws.length = mw) (haw : Row encP 2 w B aw ws) (hmw : mw ≤ 1048576) :
    Calls Tryz.prog 8 #[.pointer (some ⟨svb, 0, none⟩), .pointer (some ⟨rvb, 0, none⟩), .slice al ml cl, .slice aw mw cw] w fun e w' => e = .returned (.bool true) ∧ Sd svb rvb B w w' := by
  have hAt := hide (fun (i : Nat) (hi : i ≤ 2) (w' : World) (hb : Below B w w') => lat_any al ml cl ns i w' B (Nat.le_trans hB hb.size) hns (hal.below hb (Nat.le_refl _)) hml hi)
  obtain ⟨x0, hx0⟩ : ∃ x, x = ns.getD 0 0 := ⟨_, rfl⟩
  obtain ⟨a, ha⟩ : ∃ x, x = ns.getD 1 0 := ⟨_, rfl⟩
  obtain ⟨b, hbx⟩ : ∃ x, x = ns.getD 2 0 := ⟨_, rfl⟩
  have hA0 := hide (fun (w' : World) (hb : Below B w w') => show Calls Tryz.prog 7 #[.slice al ml cl, .int .i64 0] w' fun e w'' => e = .returned (.int .i64 x0) ∧ Below w'.heap.size w' w'' from by rw [hx0]; exact hAt.out 0 (by omega) w' hb)
  have hA1 := hide (fun (w' : World) (hb : Below B w w') => show Calls Tryz.prog 7 #[.slice al ml cl, .int .i64 1] w' fun e w'' => e = .returned (.int .i64 a) ∧ Below w'.heap.size w' w'' from by rw [ha]; exact hAt.out 1 (by omega) w' hb)
  have hA2 := hide (fun (w' : World) (hb : Below B w w') => show Calls Tryz.prog 7 #[.slice al ml cl, .int .i64 2] w' fun e w'' => e = .returned (.int .i64 b) ∧ Below w'.heap.size w' w'' from by rw [hbx]; exact hAt.out 2 (by omega) w' hb)
  have hWr := hide (fun (w' : World) (hb : Below B w w') => haw.below hb (Nat.le_refl _))
  replace hD0 := hide hD0
  replace hws := hide hws
  clear hx0 ha hbx hAt hns hal haw
  go_enter Tryz.func8, Tryz.ntmps8
  go_wp2_with fail
  refine (hA1.out _ (by exact bel)).mono ?_
  rintro e w1 ⟨rfl, hb1⟩
  have hb1 := hide (show Below w.heap.size w w1 from hb1)
  have hB1 := hide (hb1.out.mono hB)
  go_wp2_with fail
  refine (hA2.out _ hB1.out).mono ?_
  rintro e w2 ⟨rfl, hb2⟩
  have hb2 := hide (below_step hb1.out hb2)
  have hB2 := hide (hb2.out.mono hB)
  go_wp2_with fail
  refine (hA0.out _ hB2.out).mono ?_
  rintro e wr ⟨rfl, hb3⟩
  have hb3 := hide (below_step hb2.out hb3)
  have hbr := hide (hb3.out.mono hB)
  have hD := hide (hD0.out.stays hb3.out)
  have hBr : B ≤ wr.heap.size := Nat.le_trans hB hbr.out.size
  clear hb1 hB1 hb2 hB2 hb3 hA0 hA1 hA2 hD0
  go_upto_block 0 with fail
  go_cut [9] (fun s9 wx => s9 = .bool true ∧ Hid (Sd svb rvb B w wx))
  case first =>
    by_cases h16 : x0 = 1 ∨ x0 = 6
    · have hA := hide (fun (w' : World) (hb : wr = w') => hb ▸ du_ask1 hD.out hBr a b aw mw cw ws hws.out hmw (hWr.out wr hbr.out))
      have key : ∀ (Q' : Prop), Q' → Q' := fun _ h => h
      have hq : (x0 == 1) = true ∨ ((x0 == 1) = false ∧ (x0 == 6) = true) := by rcases h16 with rfl | rfl <;> simp
      clear h16
      rcases hq with q1 | ⟨q1, q2⟩
      all_goals
        go_wp2_with fail
        refine (hA.out _ rfl).mono ?_
        rintro e w1 ⟨n1, er1, σ1, P1, rfl, hI1, hD1, hb1⟩
        have hB1 := hide (hbr.out.trans hb1)
        have hA2 := hide (du_ask2 hD1 (Nat.le_trans hBr hb1.size) a b aw mw cw ws hws.out hmw (hWr.out w1 hB1.out))
        have hI1 := hide hI1
        clear hD1 hb1
        go_wp2_with fail
        refine hA2.out.mono ?_
        rintro e w2 ⟨n2, er2, σ2, Q2, rfl, hI2, hD2, hb2⟩
        obtain ⟨rfl, rfl, rfl⟩ := ask_one hI1.out hI2
        have hEnd := hide (show Sd svb rvb B w w2 from ⟨⟨_, _, _, hD2⟩, hB1.out.trans hb2⟩)
        have q5 : (n1 == n1) = true := by simp
        have q6 : (er1 == er1) = true := by simp
        clear hI1 hI2 hD2 hb2
        go_wp2_with fail
        go_meet
        case rel => exact ⟨rfl, hEnd⟩
    · have q1 : (x0 == 1) = false := by simp; omega
      have q2 : (x0 == 6) = false := by simp; omega
      clear h16
      by_cases h2 : x0 = 2
      · have q3 : (x0 == 2) = true := by simp [h2]
        have hA := hide (du_drop1 hD.out hBr a)
        clear h2
        go_wp2_with fail
        refine hA.out.mono ?_
        rintro e w1 ⟨er1, σ1, P1, rfl, hI1, hD1, hb1⟩
        have hB1 := hide (hbr.out.trans hb1)
        have hA2 := hide (du_drop2 hD1 (Nat.le_trans hBr hb1.size) a)
        have hI1 := hide hI1
        clear hD1 hb1
        go_wp2_with fail
        refine hA2.out.mono ?_
        rintro e w2 ⟨er2, σ2, Q2, rfl, hI2, hD2, hb2⟩
        obtain ⟨rfl, rfl⟩ := drop_one hI1.out hI2
        have hEnd := hide (show Sd svb rvb B w w2 from ⟨⟨_, _, _, hD2⟩, hB1.out.trans hb2⟩)
        have q6 : (er1 == er1) = true := by simp
        clear hI1 hI2 hD2 hb2
        go_wp2_with fail
        go_meet
        case rel => exact ⟨rfl, hEnd⟩
      · have q3 : (x0 == 2) = false := by simp; omega
        clear h2
        by_cases h2 : x0 = 3
        · have q4 : (x0 == 3) = true := by simp [h2]
          have hA := hide (du_edit1 hD.out hBr a b)
          clear h2
          go_wp2_with fail
          refine hA.out.mono ?_
          rintro e w1 ⟨er1, σ1, P1, rfl, hI1, hD1, hb1⟩
          have hB1 := hide (hbr.out.trans hb1)
          have hA2 := hide (du_edit2 hD1 (Nat.le_trans hBr hb1.size) a b)
          have hI1 := hide hI1
          clear hD1 hb1
          go_wp2_with fail
          refine hA2.out.mono ?_
          rintro e w2 ⟨er2, σ2, Q2, rfl, hI2, hD2, hb2⟩
          obtain ⟨rfl, rfl⟩ := edit_one hI1.out hI2
          have hEnd := hide (show Sd svb rvb B w w2 from ⟨⟨_, _, _, hD2⟩, hB1.out.trans hb2⟩)
          have q6 : (er1 == er1) = true := by simp
          clear hI1 hI2 hD2 hb2
          go_wp2_with fail
          go_meet
          case rel => exact ⟨rfl, hEnd⟩
        · have q4 : (x0 == 3) = false := by simp; omega
          clear h2
          by_cases h2 : x0 = 4
          · have q5 : (x0 == 4) = true := by simp [h2]
            have hA := hide (du_frame1 hD.out hBr a)
            clear h2
            go_wp2_with fail
            refine hA.out.mono ?_
            rintro e w1 ⟨n1, er1, σ1, P1, rfl, hI1, hD1, hb1⟩
            have hB1 := hide (hbr.out.trans hb1)
            have hA2 := hide (du_frame2 hD1 (Nat.le_trans hBr hb1.size) a)
            have hI1 := hide hI1
            clear hD1 hb1
            go_wp2_with fail
            refine hA2.out.mono ?_
            rintro e w2 ⟨n2, er2, σ2, Q2, rfl, hI2, hD2, hb2⟩
            obtain ⟨rfl, rfl, rfl⟩ := frame_one hI1.out hI2
            have hEnd := hide (show Sd svb rvb B w w2 from ⟨⟨_, _, _, hD2⟩, hB1.out.trans hb2⟩)
            have q7 : (n1 == n1) = true := by simp
            have q6 : (er1 == er1) = true := by simp
            clear hI1 hI2 hD2 hb2
            go_wp2_with fail
            go_meet
            case rel => exact ⟨rfl, hEnd⟩
          · have q5 : (x0 == 4) = false := by simp; omega
            clear h2
            obtain ⟨σ1, rfl⟩ : ∃ x, x = σ := ⟨_, rfl⟩
            obtain ⟨id, rfl⟩ : ∃ x, x = a := ⟨_, rfl⟩
            obtain ⟨st, wa, wb, co, dn, er, pt, hPp, hPr, hSm⟩ := polls_any hD.out id
            have hPp := hide hPp
            have hPr := hide hPr
            have hSm := hide hSm
            have hb0 := hide (Nat.le_trans hB hbr.out.size)
            go_wp2_with fail
            refine (hPp.out).mono ?_
            rintro e w1 ⟨p1, pm, c1, rfl, hm1, hr1, hb1⟩
            replace hm1 := hide hm1
            obtain ⟨G1, hG1⟩ : ∃ G1, G1 = w1.alloc (.cells #[.int .i64 st, .int .i64 wa, .int .i64 wb, .slice p1 pm c1, .int .i64 co, .int .i64 dn] 62) := ⟨_, rfl⟩
            have hb11 : Below w1.heap.size w1 G1 := by rw [hG1]; exact up_alloc (Below.refl _ _) (Nat.le_refl _)
            have hB1 := hide (below_step hb1 hb11)
            have hr1 := hide ((hr1.below hb11 (Nat.le_refl _)).mono hb11.size)
            have e0 : G1.cell? ⟨w1.heap.size, 0, none⟩ = some (.int .i64 st) := by rw [hG1]; simp [go_sem]
            have e1 : G1.cell? ⟨w1.heap.size, 1, none⟩ = some (.int .i64 wa) := by rw [hG1]; simp [go_sem]
            have e2 : G1.cell? ⟨w1.heap.size, 2, none⟩ = some (.int .i64 wb) := by rw [hG1]; simp [go_sem]
            have e3 : G1.cell? ⟨w1.heap.size, 3, none⟩ = some (.slice p1 pm c1) := by rw [hG1]; simp [go_sem]
            have e4 : G1.cell? ⟨w1.heap.size, 4, none⟩ = some (.int .i64 co) := by rw [hG1]; simp [go_sem]
            have e5 : G1.cell? ⟨w1.heap.size, 5, none⟩ = some (.int .i64 dn) := by rw [hG1]; simp [go_sem]
            obtain ⟨b1, hbe1⟩ : ∃ b, b = w1.heap.size := ⟨_, rfl⟩
            rw [← hbe1] at e0 e1 e2 e3 e4 e5
            have zg1 : b1 < G1.heap.size := cell_lt e0
            clear hb1 hb11
            go_upto_region 5 with fail
            simp only [← hG1, ← hbe1]
            replace hG1 := hide hG1
            replace hbe1 := hide hbe1
            go_wp2_with fail
            refine (hPr.out G1 hB1.out).mono ?_
            rintro e w2 ⟨p2, pm2, c2, rfl, hm2, hr2, hb2⟩
            obtain rfl : pm2 = pm := by rw [← hm2, hm1.out]
            clear hm1
            replace hm2 := hide hm2
            obtain ⟨G2, hG2⟩ : ∃ G2, G2 = w2.alloc (.cells #[.int .i64 st, .int .i64 wa, .int .i64 wb, .slice p2 pm2 c2, .int .i64 co, .int .i64 dn] 62) := ⟨_, rfl⟩
            have hb22 : Below w2.heap.size w2 G2 := by rw [hG2]; exact up_alloc (Below.refl _ _) (Nat.le_refl _)
            have hb12 := below_step hb2 hb22
            replace e0 := cu_below hb12 e0 zg1
            replace e1 := cu_below hb12 e1 zg1
            replace e2 := cu_below hb12 e2 zg1
            replace e3 := cu_below hb12 e3 zg1
            replace e4 := cu_below hb12 e4 zg1
            replace e5 := cu_below hb12 e5 zg1
            have g0 : G2.cell? ⟨w2.heap.size, 0, none⟩ = some (.int .i64 st) := by rw [hG2]; simp [go_sem]
            have g1 : G2.cell? ⟨w2.heap.size, 1, none⟩ = some (.int .i64 wa) := by rw [hG2]; simp [go_sem]
            have g2 : G2.cell? ⟨w2.heap.size, 2, none⟩ = some (.int .i64 wb) := by rw [hG2]; simp [go_sem]
            have g3 : G2.cell? ⟨w2.heap.size, 3, none⟩ = some (.slice p2 pm2 c2) := by rw [hG2]; simp [go_sem]
            have g4 : G2.cell? ⟨w2.heap.size, 4, none⟩ = some (.int .i64 co) := by rw [hG2]; simp [go_sem]
            have g5 : G2.cell? ⟨w2.heap.size, 5, none⟩ = some (.int .i64 dn) := by rw [hG2]; simp [go_sem]
            obtain ⟨b2, hbe2⟩ : ∃ b, b = w2.heap.size := ⟨_, rfl⟩
            rw [← hbe2] at g0 g1 g2 g3 g4 g5
            have zg2 : b1 < G2.heap.size := cell_lt e0
            have zg3 : b2 < G2.heap.size := cell_lt g0
            have hB2 := hide (below_step hB1.out hb12)
            have hSame := hide (fun (w' : World) (hb : Below G2.heap.size G2 w') => hSm.out w' p1 p2 pm2 c1 c2 hm2.out ((((hr1.out.below hb12 (Nat.le_refl _)).mono hb12.size).below hb (Nat.le_refl _)).mono hb.size) ((((hr2.below hb22 (Nat.le_refl _)).mono hb22.size).below hb (Nat.le_refl _)).mono hb.size))
            have qe : (er == er) = true := by simp
            clear hr1 hr2 hb2 hb12 hb22 hPp hPr hB1 hSm
            go_upto_region 6 with fail
            simp only [← hG2, ← hbe2]
            replace hG2 := hide hG2
            replace hbe2 := hide hbe2
            go_wp2_with fail
            refine (hSame.out _ (by first | exact Below.refl _ _ | exact below_drew _)).mono ?_
            rintro e w3 ⟨rfl, hb3⟩
            have hB3 := hide (below_step hB2.out hb3)
            have hD3 := hide (hD.out.stays hB3.out)
            have hb3 := hide (hbr.out.trans (hB3.out.mono hb0.out))
            clear hSame hB2 hB3
            have hEnd := hide (show Sd svb rvb B w w3 from ⟨⟨_, _, _, hD3.out⟩, hb3.out⟩)
            go_wp2_with fail
            go_meet
            case rel => exact ⟨rfl, hEnd⟩
  case rest =>
    obtain ⟨rfl, hSd⟩ := hcut
    obtain ⟨⟨σ1, P1, Q1, hD1⟩, hbc⟩ := hSd.out
    replace hD1 := hide hD1
    replace hbc := hide hbc
    clear hSd hD hbr hBr hWr hws hml hmw
    go_wp2_with fail
    go_loopw [9, 124] (fun s9 i wr => ∃ k : Nat, k ≤ 6 ∧ s9 = .bool true ∧ i = .int .i64 (k : Int) ∧ Hid (Du σ1 σ1 svb rvb B P1 Q1 wr) ∧ Hid (Below B w wr)) (fun _ i _ => 6 - (intOf i).toNat)
    case atStart => exact ⟨0, Nat.zero_le _, rfl, rfl, hD1, hbc⟩
    case round =>
      clear hD1 hbc
      obtain ⟨k, hk6, rfl, rfl, hD, hbr⟩ := hrel
      by_cases hk : k < 6
      · have i1 : ((k : Int) < 6) = True := by simp; omega
        obtain ⟨id, hid⟩ : ∃ x : Int, x = (k : Int) := ⟨_, rfl⟩
        rw [← hid] at i1
        rw [← hid]
        replace hid := hide hid
        obtain ⟨st, wa, wb, co, dn, er, pt, hPp, hPr, hSm⟩ := polls_any hD.out id
        have hPp := hide hPp
        have hPr := hide hPr
        have hSm := hide hSm
        have hb0 := hide (Nat.le_trans hB hbr.out.size)
        go_wp2_with fail
        refine (hPp.out).mono ?_
        rintro e w1 ⟨p1, pm, c1, rfl, hm1, hr1, hb1⟩
        replace hm1 := hide hm1
        obtain ⟨G1, hG1⟩ : ∃ G1, G1 = w1.alloc (.cells #[.int .i64 st, .int .i64 wa, .int .i64 wb, .slice p1 pm c1, .int .i64 co, .int .i64 dn] 62) := ⟨_, rfl⟩
        have hb11 : Below w1.heap.size w1 G1 := by rw [hG1]; exact up_alloc (Below.refl _ _) (Nat.le_refl _)
        have hB1 := hide (below_step hb1 hb11)
        have hr1 := hide ((hr1.below hb11 (Nat.le_refl _)).mono hb11.size)
        have e0 : G1.cell? ⟨w1.heap.size, 0, none⟩ = some (.int .i64 st) := by rw [hG1]; simp [go_sem]
        have e1 : G1.cell? ⟨w1.heap.size, 1, none⟩ = some (.int .i64 wa) := by rw [hG1]; simp [go_sem]
        have e2 : G1.cell? ⟨w1.heap.size, 2, none⟩ = some (.int .i64 wb) := by rw [hG1]; simp [go_sem]
        have e3 : G1.cell? ⟨w1.heap.size, 3, none⟩ = some (.slice p1 pm c1) := by rw [hG1]; simp [go_sem]
        have e4 : G1.cell? ⟨w1.heap.size, 4, none⟩ = some (.int .i64 co) := by rw [hG1]; simp [go_sem]
        have e5 : G1.cell? ⟨w1.heap.size, 5, none⟩ = some (.int .i64 dn) := by rw [hG1]; simp [go_sem]
        obtain ⟨b1, hbe1⟩ : ∃ b, b = w1.heap.size := ⟨_, rfl⟩
        rw [← hbe1] at e0 e1 e2 e3 e4 e5
        have zg1 : b1 < G1.heap.size := cell_lt e0
        clear hb1 hb11
        go_upto_region 24 with fail
        simp only [← hG1, ← hbe1]
        replace hG1 := hide hG1
        replace hbe1 := hide hbe1
        go_wp2_with fail
        refine (hPr.out G1 hB1.out).mono ?_
        rintro e w2 ⟨p2, pm2, c2, rfl, hm2, hr2, hb2⟩
        obtain rfl : pm2 = pm := by rw [← hm2, hm1.out]
        clear hm1
        replace hm2 := hide hm2
        obtain ⟨G2, hG2⟩ : ∃ G2, G2 = w2.alloc (.cells #[.int .i64 st, .int .i64 wa, .int .i64 wb, .slice p2 pm2 c2, .int .i64 co, .int .i64 dn] 62) := ⟨_, rfl⟩
        have hb22 : Below w2.heap.size w2 G2 := by rw [hG2]; exact up_alloc (Below.refl _ _) (Nat.le_refl _)
        have hb12 := below_step hb2 hb22
        replace e0 := cu_below hb12 e0 zg1
        replace e1 := cu_below hb12 e1 zg1
        replace e2 := cu_below hb12 e2 zg1
        replace e3 := cu_below hb12 e3 zg1
        replace e4 := cu_below hb12 e4 zg1
        replace e5 := cu_below hb12 e5 zg1
        have g0 : G2.cell? ⟨w2.heap.size, 0, none⟩ = some (.int .i64 st) := by rw [hG2]; simp [go_sem]
        have g1 : G2.cell? ⟨w2.heap.size, 1, none⟩ = some (.int .i64 wa) := by rw [hG2]; simp [go_sem]
        have g2 : G2.cell? ⟨w2.heap.size, 2, none⟩ = some (.int .i64 wb) := by rw [hG2]; simp [go_sem]
        have g3 : G2.cell? ⟨w2.heap.size, 3, none⟩ = some (.slice p2 pm2 c2) := by rw [hG2]; simp [go_sem]
        have g4 : G2.cell? ⟨w2.heap.size, 4, none⟩ = some (.int .i64 co) := by rw [hG2]; simp [go_sem]
        have g5 : G2.cell? ⟨w2.heap.size, 5, none⟩ = some (.int .i64 dn) := by rw [hG2]; simp [go_sem]
        obtain ⟨b2, hbe2⟩ : ∃ b, b = w2.heap.size := ⟨_, rfl⟩
        rw [← hbe2] at g0 g1 g2 g3 g4 g5
        have zg2 : b1 < G2.heap.size := cell_lt e0
        have zg3 : b2 < G2.heap.size := cell_lt g0
        have hB2 := hide (below_step hB1.out hb12)
        have hSame := hide (fun (w' : World) (hb : Below G2.heap.size G2 w') => hSm.out w' p1 p2 pm2 c1 c2 hm2.out ((((hr1.out.below hb12 (Nat.le_refl _)).mono hb12.size).below hb (Nat.le_refl _)).mono hb.size) ((((hr2.below hb22 (Nat.le_refl _)).mono hb22.size).below hb (Nat.le_refl _)).mono hb.size))
        have qe : (er == er) = true := by simp
        clear hr1 hr2 hb2 hb12 hb22 hPp hPr hB1 hSm
        go_upto_region 25 with fail
        simp only [← hG2, ← hbe2]
        replace hG2 := hide hG2
        replace hbe2 := hide hbe2
        go_wp2_with fail
        refine (hSame.out _ (by first | exact Below.refl _ _ | exact below_drew _)).mono ?_
        rintro e w3 ⟨rfl, hb3⟩
        have hB3 := hide (below_step hB2.out hb3)
        have hD3 := hide (hD.out.stays hB3.out)
        have hb3 := hide (hbr.out.trans (hB3.out.mono hb0.out))
        clear hSame hB2 hB3
        have hwk : wrap64 (id + 1) = (k : Int) + 1 := by rw [hid.out]; exact IntWalk.wrap64_in _ (by omega)
        go_wp2
        go_roundw
        case rel => exact ⟨k + 1, by omega, rfl, by first | rfl | go_num, hD3, hb3⟩
        case measure => have := hid.out; simp [intOf]; omega
      · obtain rfl : k = 6 := by omega
        have hGr := hide (fun (w' : World) (hb : Below wr.heap.size wr w') => show Calls Tryz.prog 24 #[.pointer (some ⟨svb, 0, none⟩)] w' (GridBack σ1.W σ1.H σ1.cs w') from by
          obtain ⟨hok, hlt, ga, gc, xs, W, N, hX, hin⟩ := (hD.out.stays hb).p
          exact sground_any σ1.W σ1.H σ1.cs svb w' hX.gd (by have := hok.n.2.1; omega))
        have hn64 := hide hD.out.p.1.n.2.1
        obtain ⟨hok, hlt, ga, gc, xs, W, N, hX, hin⟩ := hD.out.q
        have c0 := hX.c0
        have c1 := hX.c1
        have c2 := hX.c2
        have hrow := hide hX.row
        have zr : rvb < wr.heap.size := cell_lt c0
        have hEnd := hide (fun (w' : World) (hb : Below wr.heap.size wr w') => show Sd svb rvb B w w' from ⟨⟨σ1, P1, Q1, hD.out.stays hb⟩, hbr.out.trans (hb.mono (Nat.le_trans hB hbr.out.size))⟩)
        clear hX hin hok hlt hD hbr
        go_wp2_with fail
        have key0 := hide (show ∀ w', Below wr.heap.size wr w' → (fun w' => Below wr.heap.size wr w' ∧ w'.cell? ⟨rvb, 0, none⟩ = some (.int .i64 σ1.W) ∧ w'.cell? ⟨rvb, 1, none⟩ = some (.int .i64 σ1.H) ∧ w'.cell? ⟨rvb, 2, none⟩ = some (.slice ga σ1.cs.length gc)) w' from fun w' hb => ⟨hb, cu_below hb c0 zr, cu_below hb c1 zr, cu_below hb c2 zr⟩)
        refine wp_region_end (S := (fun w' => Below wr.heap.size wr w' ∧ w'.cell? ⟨rvb, 0, none⟩ = some (.int .i64 σ1.W) ∧ w'.cell? ⟨rvb, 1, none⟩ = some (.int .i64 σ1.H) ∧ w'.cell? ⟨rvb, 2, none⟩ = some (.slice ga σ1.cs.length gc))) (t := 10) (by kernel_rfl) ?_ (fun hHeld hInv => ?_)
        · exact key0.out _ (below_drew _)
        replace hInv := hide hInv
        refine planE [0, 1, 2, 4, 5, 6, 7] ?_
        iterate 7
          refine PlanE.take (v := ?_) (List.getElem?_toArray.trans rfl) (by kernel_rfl) (fun _ _ _ h => h) (Or.inl ⟨by rfl, ?_⟩) hInv.out (by assumption) (fun hInv' => ?_)
          rotate_left
          · intro w hSw; (try dsimp only at hSw); go_simp; (try with_reducible rfl)
          replace hInv := hide hInv'; clear hInv'; try simp only [Act.put, List.setIfInBounds_toArray, List.set_cons_zero, List.set_cons_succ]
        refine wpAnyE_one (i := 3) (List.getElem?_toArray.trans rfl) (by kernel_rfl) (fun K hK => ?_) hInv.out
        (go_simp; refine (hGr.out _ hHeld.1).mono ?_; rintro e w4 ⟨a4, c4, rfl, own4, hb4⟩; have hSB := hHeld.1; have hrow4 := hide (own4.row lenI); have hb4' := hide (below_step hSB hb4))
        have hHeld := key0.out _ hb4'.out
        refine hK.out _ _ (fun _ => hHeld) (fun hInv' => ?_)
        clear hK K; replace hInv := hide (hInv' (by decide)); clear hInv'; try simp only [Act.put, List.setIfInBounds_toArray, List.set_cons_zero, List.set_cons_succ]
        refine wpAnyE_one (i := 8) (List.getElem?_toArray.trans rfl) (by kernel_rfl) (fun K hK => ?_) hInv.out
        (go_simp; refine (samegrid_any σ1.W σ1.H a4 ga c4 gc σ1.cs.length σ1.cs _ rfl (by have := hn64.out; omega) ?_ ?_).mono ?_; (case _ => obtain ⟨pa, pc, hev, hr, -, -⟩ := hrow4.out; simp only [Value.slice.injEq] at hev; rw [hev.1]; exact hr); (case _ => exact (hrow.out.below hb4'.out (Nat.le_refl _)).mono hb4'.out.size); rintro e w5 ⟨rfl, hb5⟩)
        have hHeld := key0.out _ (below_step hb4'.out hb5)
        refine hK.out _ _ (fun _ => hHeld) (fun hInv' => ?_)
        clear hK K; replace hInv := hide (hInv' (by decide)); clear hInv'; try simp only [Act.put, List.setIfInBounds_toArray, List.set_cons_zero, List.set_cons_succ]
        refine planE [9] ?_
        iterate 1
          refine PlanE.take (v := ?_) (List.getElem?_toArray.trans rfl) (by kernel_rfl) (fun _ _ _ h => h) (Or.inl ⟨by rfl, ?_⟩) hInv.out (by assumption) (fun hInv' => ?_)
          rotate_left
          · intro w hSw; (try dsimp only at hSw); go_simp; (try with_reducible rfl)
          replace hInv := hide hInv'; clear hInv'; try simp only [Act.put, List.setIfInBounds_toArray, List.set_cons_zero, List.set_cons_succ]
        refine wpAnyE_one (i := 10) (List.getElem?_toArray.trans rfl) (by kernel_rfl) (fun K hK => ?_) hInv.out
        (try dsimp only at hHeld); go_simp
        refine hK.out _ _ (fun h => absurd rfl h) (fun _ => ?_)
        clear hK K hInv; try simp only [Act.put, List.setIfInBounds_toArray, List.set_cons_zero, List.set_cons_succ]
        refine wpAnyE_done (by kernel_rfl) ?_ _
        go_wp2
        go_ret
        exact ⟨rfl, hEnd.out _ hHeld.1⟩
end Go.Proofs.YtccailcjclbhlaaGreat
/-! For the statements with a bound on what is read: how many elements an argument has at most. No conditions. -/
namespace Go.Proofs.YtccailcjclbhlaaGreat
open Go.ChangeShapes Go.WideShapes Go.ChangeAt Go.RowKit Go.Deep
set_option linter.unusedSimpArgs false
set_option linter.unusedVariables false
theorem bulk_pos {H : Type} (d : DataW H) : 1 ≤ Rows.uptoBulk d := by
  cases d with
  | lit l => cases l <;> simp only [Rows.uptoBulk] <;> omega
  | _ => simp only [Rows.uptoBulk] <;> omega
section
variable {P : Program} {H : Type} {enc : TypeId × Value → H} {W : World} {base : Nat} {spare : Nat → Bool} {held : Bool}
theorem bulk_sum' {D : Nat → DataW H} {m : Nat} (h : ∀ i, i < m → 2 ≤ Rows.uptoBulk (D i)) : ∀ k, k ≤ m → 2 * k ≤ Rows.uptoBulkAll ((List.range k).map D) := by
  have app : ∀ (a b : List (DataW H)), Rows.uptoBulkAll (a ++ b) = Rows.uptoBulkAll a + Rows.uptoBulkAll b := by
    intro a b
    induction a with
    | nil => simp [Rows.uptoBulkAll]
    | cons x r ih => simp only [List.cons_append, Rows.uptoBulkAll, ih]; omega
  intro k
  induction k with
  | zero => intro _; simp
  | succ k ih =>
    intro hk
    have h1 := ih (by omega)
    have h2 := h k (by omega)
    rw [List.range_succ, List.map_append, app]
    simp only [List.map_cons, List.map_nil, Rows.uptoBulkAll]
    omega
/-- a slice of pairs: two for each -/
theorem pairs_bulk {t e : TypeId} {f0 f1 : Field} {a : Option Addr} {len cap n : Nat} {y : DataW H × List MemPlace} (ht : P.underlying t = some (.slice e)) (he : P.underlying e = some (.struct #[f0, f1])) (h : DataW.trod enc P W base spare held n t [.slice a len cap] = some y) : 2 * len ≤ Rows.uptoBulk y.1 := by
  rcases open_slice ht h with ⟨hcs, _⟩ | ⟨a', len', cap', m, k, D, Pl, hcs, _, hl, hm, hmm, rfl, hx⟩
  · simp only [List.cons.injEq, Value.slice.injEq, and_true] at hcs
    omega
  · simp only [List.cons.injEq, Value.slice.injEq, and_true] at hcs
    have hle : len' ≤ m := by rw [hmm]; split <;> omega
    have := bulk_sum' (D := D) (m := m) (fun i hi => by
      obtain ⟨cs', _, h2⟩ := hx i hi
      obtain ⟨y0, y1, _, h3, _⟩ := trod_struct2 he h2
      have h4 := congrArg Prod.fst h3
      simp only at h4
      rw [h4]
      have b0 := bulk_pos y0.1
      simp only [Rows.uptoBulk, Rows.uptoBulkAll]
      omega) len' hle
    simp only [Rows.uptoBulk]
    omega
end
end Go.Proofs.YtccailcjclbhlaaGreat
/-! How a list of rows of numbers reads. No condition. -/
namespace Go.Proofs.YtccailcjclbhlaaGreat
open Go.ChangeShapes Go.WideShapes Go.ChangeAt Go.RowKit Go.Deep
set_option linter.unusedSimpArgs false
set_option linter.unusedVariables false
/-- a row: where it begins, its room, its numbers -/
structure SRw where
  a : Option Addr
  c : Nat
  xs : List Int
def encRw (s : SRw) : List Value := [.slice s.a s.xs.length s.c]
def QRw (W : World) (B : Nat) (s : SRw) : Prop := s.xs.length ≤ s.c ∧ s.c ≤ maxLen ∧ Row encI 1 W B s.a s.xs ∧ ∀ x ∈ s.xs, Bd x
section
variable {H : Type} {enc : TypeId × Value → H} {P : Program} {W : World} {b0 base : Nat} {spare : Nat → Bool} {held : Bool} {r : Reach}
theorem read_rws {t e i : TypeId} {v : Value} {y : DataW H × List MemPlace} {n : Nat} (ht : P.underlying t = some (.slice e)) (hC : P.cellsOf e = 1) (he : P.underlying e = some (.slice i)) (hCi : P.cellsOf i = 1) (hi : P.underlying i = some (.int .i64))
    (h : DataW.trod enc P W base spare held n t [v] = some y) :
    ∃ (a : Option Addr) (cap : Nat) (ss : List SRw), v = .slice a ss.length cap ∧ ss.length ≤ cap ∧ cap ≤ maxLen ∧ Row encRw 1 W W.heap.size a ss ∧ ∀ s ∈ ss, QRw W W.heap.size s := by
  refine read_slice encRw 1 (QRw W W.heap.size) ht hC ?_ (fun _ => rfl) (by omega) h
  intro m cs y hl hy
  match cs, hl with
  | [c], _ =>
    obtain ⟨a, cap, xs, h1, h2, h3, h4, h5⟩ := read_ints he hCi hi hy
    exact ⟨⟨a, cap, xs⟩, by rw [h1]; rfl, h2, h3, h4, h5⟩
theorem openT_rws {t e i : TypeId} {v : Value} {d : DataW H} {p : List MemPlace} (ht : P.underlying t = some (.slice e)) (hC : P.cellsOf e = 1) (he : P.underlying e = some (.slice i)) (hCi : P.cellsOf i = 1) (hi : P.underlying i = some (.int .i64)) (hv : Value.okWide P W r b0 t v) (h : DataW.Trod enc P W base spare held t v d p) :
    ∃ (a : Option Addr) (cap : Nat) (xs : List SRw), v = .slice a xs.length cap ∧ xs.length ≤ cap ∧ cap ≤ maxLen ∧ Row encRw 1 W W.heap.size a xs ∧ ∀ s ∈ xs, QRw W W.heap.size s := by
  obtain ⟨a, l, c, rfl⟩ := okWide_slice ht hv
  obtain ⟨fuel, hf⟩ := h
  exact read_rws ht hC he hCi hi (by simpa [Value.cells] using hf)
end
end Go.Proofs.YtccailcjclbhlaaGreat
