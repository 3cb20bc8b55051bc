/-
  Several texts in one:
  A plan (life): what New returns. Conditions: that the edges read.
-/
import Derived.Test.YtcehdpeeaogpiaaLMC
import Derived.Test.YtcehdpeeaogpiaaFlat
import Derived.Test.YtcehdpeeaogpiaaNetL
import Derived.Laws.EntriesVeiled
/-! A plan (life): what New returns. Conditions: that the edges read. -/
namespace Go.Proofs.Ytcehdpeeaogpiaa
open Go.RowKit
set_option linter.unusedSimpArgs false
set_option linter.unusedVariables false
/-- append of one element in a drawn region; where the new slice lies -/
theorem step_pushL2 {α : Type} {enc : α → List Value} {sz : Nat} {e : TypeId} {w : World} {base : Nat} {v : Value} {xs : List α} {P : Program} {ops : Array Oper} {o : Oper} {a : Act} {K : Act → World → Prop} {Q : Exit → Act → World → Prop} {E : Prop} (hgd : o.guard = none) (s x : Operand) (t : TypeId)
    (ho : o.op = .call { callee := .builtin .append, args := #[s, x], argTypes := #[t, t] })
    (z : Value) (bytes : Nat) (ht : P.underlying t = some (.slice e)) (hinf : (P.info? e).map (fun i => (i.zero, i.size, i.bytes)) = some (some z, sz, bytes)) (hzs : z.cells.size = sz) (hsz : 0 < sz)
    (hlen : ∀ x, (enc x).length = sz) (hone : ∀ x, ∀ u ∈ enc x, u.oneCell' = true)
    (n : Nat) (hn : xs.length = n) (hs : a.eval s = v) (own : Own enc sz e w base v xs) (ad : Addr) (c : Nat) (y : α) (hx : a.eval x = .slice (some ad) 1 c)
    (hcells : ∀ j u, (enc y)[j]? = some u → w.cell? (ad.add j) = some u) (hbound : (n + 1) * bytes ≤ 140737488355328) (hmax : n + 1 ≤ maxLen) (hbase : base ≤ w.heap.size)
    (h : ∀ g c' w', Own enc sz e w' base (.slice (some ⟨g, 0, none⟩) (n + 1) c') (xs ++ [y]) → w.grownBy w' v.ownBlock → (v.ownBlock = some g ∨ g = w.heap.size) → g < w'.heap.size → K (a.put o.dst (.slice (some ⟨g, 0, none⟩) (n + 1) c')) w') :
    if Region.wanted o (yielded ops a.tmps) = true then Oper.wp P o a w K Q else E := by
  subst hn
  obtain ⟨i0, hi, hz0, hz1, hz2⟩ := info_parts hinf
  refine step_append_lies w hgd s x t ho base e i0 z sz bytes ht hi hz0 hz1 hz2 hzs hsz v xs.length (xs.flatMap enc) hs own ad 1 c (enc y) hx (by rw [hlen, Nat.one_mul]) hcells (hone y) (by omega) hmax hbound hbase w.heap.size rfl ?_
  intro g cap w' own' hg hat hlt
  have own2 : Own enc sz e w' base (.slice (some ⟨g, 0, none⟩) (xs.length + 1) cap) (xs ++ [y]) := by
    unfold Own
    rw [List.length_append, List.flatMap_append]
    simpa using own'
  exact h g cap w' own2 hg hat hlt
theorem fresh_far {w : World} {ad : Addr} (x : Int) (h : w.cell? (ad.add 0) = some (.int .i64 x)) : ∀ j u, (encI x)[j]? = some u → w.cell? (ad.add j) = some u := by
  intro j u hj
  match j, hj with
  | 0, hj => simp [encI] at hj; subst hj; exact h
/-- what holds while New makes the rows of costs -/
structure NX (wz : World) (pb : Nat) (a6 a7 : Option Addr) (k6 k7 k : Nat) (wr : World) : Prop where
  kp : Keep (fun j => j = pb) wz wr
  c6 : wr.cell? ⟨pb, 6, none⟩ = some (.slice a6 k k6)
  c7 : wr.cell? ⟨pb, 7, none⟩ = some (.slice a7 k k7)
  cx : ∀ o v, o ≠ 6 → o ≠ 7 → wz.cell? ⟨pb, o, none⟩ = some v → wr.cell? ⟨pb, o, none⟩ = some v
  fz : ∀ o, wr.frozen? ⟨pb, o, none⟩ = false
  o6 : Own encI 1 3 wr wz.heap.size (.slice a6 k k6) (LI k (fun _ => 1099511627776))
  o7 : Own encI 1 3 wr wz.heap.size (.slice a7 k k7) (LI k (fun _ => 1099511627776))
  ap : ∀ j, (Value.slice a6 k k6).ownBlock = some j → (Value.slice a7 k k7).ownBlock ≠ some j
  lt : pb < wz.heap.size
theorem new_lok {n s : Nat} {es : List Ed} (hE : LEd n (nes es)) : LOk n s (nes es) (fun _ => FAR) (upz (fun _ => FAR) s 0) (fun _ => False) := by
  refine ⟨fun v _ => by unfold FAR; omega, fun v _ => ?_, upz_same _ _ _, fun v hv hvs _ => ?_⟩
  · by_cases h : v = s
    · subst h; rw [upz_same]; unfold FAR; omega
    · rw [upz_other _ _ h]; unfold FAR; omega
  · rw [upz_other _ _ hvs]
    have h1 := look_far (E := nes es) (c := fun _ => FAR) (v := v)
    rcases look_att (E := nes es) (c := fun _ => FAR) (v := v) with g | ⟨e, he, -, g⟩
    · exact g.symm
    · have := (hE e he).2.2.1
      omega
theorem new_has {n s q1 : Nat} {f f1 : Nat → Ed} (hs : s < n) (h : PutTo (fun _ => FAR) (upz (fun _ => FAR) s 0) s 0 f q1 f1) : LHas n s (fun _ => FAR) (upz (fun _ => FAR) s 0) (fun _ => False) (RW q1 f1) := by
  obtain ⟨h1, h2, h3, h4, h5⟩ := h
  refine ⟨fun p hp => ?_, fun v hv _ hc => ?_⟩
  · rcases h4 p hp with g | g
    · simp [RW] at g
    · exact ⟨s, hs, g⟩
  · by_cases hvs : v = s
    · subst hvs; exact h5 hc
    · exact absurd (by rw [upz_other _ _ hvs]) hc
theorem new_lx {n m pb gh g6 g7 d6 d7 I O ec : Nat} {s t : Int} {ae : Option Addr} {es : List Ed} {w w4 wz wr : World} {f : Nat → Ed} (hN : NX wz pb (some ⟨g6, 0, none⟩) (some ⟨g7, 0, none⟩) d6 d7 n wr) (hb : Below w.heap.size w w4) (hkz : Keep (fun j => j = pb) w4 wz)
    (z0 : wz.cell? ⟨pb, 0, none⟩ = some (.int .i64 (n : Int))) (z1 : wz.cell? ⟨pb, 1, none⟩ = some (.slice ae m ec)) (z2 : wz.cell? ⟨pb, 2, none⟩ = some (.slice (some ⟨I, 0, none⟩) n n)) (z3 : wz.cell? ⟨pb, 3, none⟩ = some (.slice (some ⟨O, 0, none⟩) n n)) (z4 : wz.cell? ⟨pb, 4, none⟩ = some (.int .i64 s)) (z5 : wz.cell? ⟨pb, 5, none⟩ = some (.int .i64 t)) (z8 : wz.cell? ⟨pb, 8, none⟩ = some (.pointer (some ⟨gh, 0, none⟩))) (z9 : wz.cell? ⟨pb, 9, none⟩ = some (.int .i64 0))
    (eo : Own encE 3 34 w4 w.heap.size (.slice ae m ec) es) (hev : ∀ j, (Value.slice ae m ec).ownBlock = some j → j < gh) (hg : w.heap.size ≤ gh ∧ gh < pb ∧ pb < w4.heap.size) (hH : HeapS w4 gh gh (.func (.func 117) #[] #[]) (.slice none 0 0) 0 f) :
    @LX (LFr.from w (fun _ => False)) n pb g6 g7 gh d6 d7 I O (.slice ae m ec) s t es (.slice none 0 0) 0 f (fun _ => FAR) (fun _ => FAR) 0 wr wr := by
  letI : LFr := LFr.from w (fun _ => False)
  have kp : Keep (fun j => j = pb) w4 wr := hkz.trans hN.kp
  have b6 := hN.o6.block_lt g6 rfl
  have b7 := hN.o7.block_lt g7 rfl
  have h1 := hkz.size
  have h2 := hN.kp.size
  have h3 : g6 ≠ g7 := fun e => hN.ap g6 rfl (by rw [e]; rfl)
  refine ⟨hN.cx _ _ (by omega) (by omega) z0, hN.cx _ _ (by omega) (by omega) z1, hN.cx _ _ (by omega) (by omega) z2, hN.cx _ _ (by omega) (by omega) z3, hN.cx _ _ (by omega) (by omega) z4, hN.cx _ _ (by omega) (by omega) z5, hN.c6, hN.c7, hN.cx _ _ (by omega) (by omega) z8, hN.cx _ _ (by omega) (by omega) z9, hN.fz,
    kp.own (eo.base_le (Nat.zero_le _)) (fun j hj e => by have := hev j hj; omega), hN.o6.base_le (Nat.zero_le _), hN.o7.base_le (Nat.zero_le _), hH.keep kp (by omega) (fun j hj => by simp [Value.ownBlock] at hj), Keep.refl _ _, fun j hj => by simp [Value.ownBlock] at hj,
    ⟨by omega, by omega, by omega, by omega, fun j hj => by have := hev j hj; omega⟩, ⟨⟨by omega, by omega, by omega, by omega, by omega, by omega⟩, fun j hj => by have := hev j hj; omega⟩, ?_, ?_⟩
  · exact (Keep.new hb).trans2 kp (fun j hj => .inr (by rw [hj]; show w.heap.size ≤ pb; omega))
  · intro j hj
    refine .inr ?_
    show w.heap.size ≤ j
    rcases hj with (h | h | h | h | h) | h
    · omega
    · omega
    · omega
    · omega
    · exact (eo.block_lt j h).1
    · simp [Value.ownBlock] at h
theorem outs_m (n m : Nat) (a : Option Addr) (cap : Nat) (es : List Ed) (hm : es.length = m) (w : World) (hE : Row encE 3 w w.heap.size a es) (hn : n ≤ 64) (hl : m ≤ 9000) (hes : ∀ e ∈ es, 0 ≤ e.u ∧ e.u < n) :
    Calls Try.prog 94 #[.agg #[.int .i64 (n : Int), .slice a m cap]] w fun e w' => ∃ g, e = .returned (.slice (some ⟨g, 0, none⟩) n n) ∧ Own2 encI 1 29 3 w' w.heap.size (.slice (some ⟨g, 0, none⟩) n n) (outRows n es es.length) ∧ Below w.heap.size w w' := by
  subst hm
  exact outs_any n a cap es w w.heap.size (Nat.le_refl _) hE hn hl hes
theorem turned_m (n m : Nat) (a : Option Addr) (cap : Nat) (es : List Ed) (hm : es.length = m) (w : World) (hE : Row encE 3 w w.heap.size a es) (hl : m ≤ 600) :
    Calls Try.prog 118 #[.agg #[.int .i64 (n : Int), .slice a m cap]] w fun e w' => ∃ a' c', e = .returned (.agg #[.int .i64 (n : Int), .slice a' m c']) ∧ Row encE 3 w' w'.heap.size a' (es.map flip) ∧ Below w.heap.size w w' := by
  subst hm
  refine (turned_any (n : Int) a cap es w w.heap.size (Nat.le_refl _) hE hl).mono ?_
  rintro e w' ⟨v, rfl, h1, h2⟩
  obtain ⟨a', c', rfl, h3, -⟩ := h1.row lenE
  refine ⟨a', c', by rw [List.length_map], h3, h2⟩
theorem lnew_bad (N : Int) (a : Option Addr) (cap : Nat) (es : List Ed) (x1 x2 : Int) (w : World) (B : Nat) (hB : B ≤ w.heap.size) (hE : Row encE 3 w B a es) (hl : es.length ≤ 9223372036854775807) (h0 : lookErr N es [x1, x2] ≠ 0) :
    Calls Try.prog 44 #[.agg #[.int .i64 N, .slice a es.length cap], .int .i64 x1, .int .i64 x2] w fun e w' => e = .returned (.tuple #[.pointer none, .int .i64 (lookErr N es [x1, x2])]) ∧ Below w.heap.size w w' := by
  have hL := hide (fun a1 c1 w B hB hE hP => look_any N a cap es a1 c1 2 [x1, x2] rfl w B hB hE hP hl (by omega))
  obtain ⟨er, her⟩ : ∃ er, er = lookErr N es [x1, x2] := ⟨_, rfl⟩
  rw [← her] at h0 hL ⊢
  have q0 : (er != 0) = true := by simpa using h0
  replace hE := hide hE
  replace her := hide her
  clear h0
  go_enter Try.func44, Try.ntmps44
  go_wp2_with fail
  refine (hL.out _ _ _ (w.heap.size + 1 + 1) (by simp) ((hE.out.below ((by repeat (first | with_reducible exact Below.refl _ _ | with_reducible assumption | with_reducible refine up_drewN ?_ | with_reducible refine up_drew ?_ | (with_reducible refine up_alloc ?_ ?_; rotate_left; (first | omega | (simp <;> omega) | simp)) | (with_reducible refine up_set ?_ ?_; rotate_left; (first | omega | (simp <;> omega) | simp)) | (with_reducible refine Below.trans ?_ (Below.mono (by with_reducible assumption) ?_); rotate_left; (first | omega | (simp <;> omega) | simp)))) : Below w.heap.size w _) hB).mono (by omega)) ((row2 (by simp [go_sem]) (by simp [go_sem])).mono (by simp))).mono ?_
  rintro e w1 ⟨rfl, hb1⟩
  have hb2 := hide ((((by repeat (first | with_reducible exact Below.refl _ _ | with_reducible assumption | with_reducible refine up_drewN ?_ | with_reducible refine up_drew ?_ | (with_reducible refine up_alloc ?_ ?_; rotate_left; (first | omega | (simp <;> omega) | simp)) | (with_reducible refine up_set ?_ ?_; rotate_left; (first | omega | (simp <;> omega) | simp)) | (with_reducible refine Below.trans ?_ (Below.mono (by with_reducible assumption) ?_); rotate_left; (first | omega | (simp <;> omega) | simp)))) : Below w.heap.size w _)).trans (hb1.mono (by simp; omega)))
  clear hb1
  go_wp2
  refine bodyPost_ret (v := .tuple #[.pointer none, .int .i64 er]) (by simp [results, Try.results44, go_sem]) rfl ?_
  exact ⟨rfl, hb2.out⟩
set_option maxRecDepth 100000 in
set_option maxHeartbeats 8000000 in
theorem lnew_ok (n s t : Nat) (a : Option Addr) (cap : Nat) (es : List Ed) (w : World) (B : Nat) (hB : B ≤ w.heap.size) (hE : Row encE 3 w B a es) (h0 : lookErr (n : Int) es [(s : Int), (t : Int)] = 0) (hs : s < n) (ht : t < n) (hn : n ≤ 64) (hl : es.length ≤ 600) (hR : Right n es) (hp : ∀ e ∈ es, 1 ≤ e.c) :
    Calls Try.prog 44 #[.agg #[.int .i64 (n : Int), .slice a es.length cap], .int .i64 (s : Int), .int .i64 (t : Int)] w fun e w' => ∃ pb q A C, e = .returned (.tuple #[.pointer (some ⟨pb, 0, none⟩), .int .i64 0]) ∧ LPl n s t es (fun _ => FAR) (upz (fun _ => FAR) s 0) q 0 pb A C w' ∧ q ≤ 1 ∧ (∀ j, A j ∨ C j → w.heap.size ≤ j) ∧ (∀ j, C j → j < w'.heap.size) ∧ Below w.heap.size w w' := by
  have hL := hide (fun a1 c1 w B hB hE hP => by have := look_any (n : Int) a cap es a1 c1 2 [(s : Int), (t : Int)] rfl w B hB hE hP (by omega) (by omega); rw [h0] at this; exact this)
  have hCp := hide (fun (w' : World) (hb : Below w.heap.size w w') => copy_any (n : Int) a cap es w' B (Nat.le_trans hB hb.size) (hE.below hb hB) (by omega))
  replace hE := hide hE
  have hR := hide hR
  have hp := hide hp
  obtain ⟨m, hm⟩ : ∃ m, m = es.length := ⟨_, rfl⟩
  have hOs := hide (fun (ae : Option Addr) (ec : Nat) (w' : World) (hr : Row encE 3 w' w'.heap.size ae es) => outs_m n m ae ec es hm.symm w' hr hn (by omega) (fun e he => by have := hR.out e he; omega))
  have hTn := hide (fun (ae : Option Addr) (ec : Nat) (w' : World) (hr : Row encE 3 w' w'.heap.size ae es) => turned_m n m ae ec es hm.symm w' hr (by omega))
  have hOt := hide (fun (ae : Option Addr) (ec : Nat) (w' : World) (hr : Row encE 3 w' w'.heap.size ae (es.map flip)) => outs_m n m ae ec (es.map flip) (by simp [hm]) w' hr hn (by omega) (fun e he => by obtain ⟨x, hx, rfl⟩ := List.mem_map.1 he; have := hR.out x hx; simp only [flip]; omega))
  rw [← hm] at hCp hl hL ⊢
  replace hm := hide hm
  clear h0
  go_enter Try.func44, Try.ntmps44
  go_wp2_with fail
  refine (hL.out _ _ _ (w.heap.size + 1 + 1) (by simp) ((hE.out.below ((by repeat (first | with_reducible exact Below.refl _ _ | with_reducible assumption | with_reducible refine up_drewN ?_ | with_reducible refine up_drew ?_ | (with_reducible refine up_alloc ?_ ?_; rotate_left; (first | omega | (simp <;> omega) | simp)) | (with_reducible refine up_set ?_ ?_; rotate_left; (first | omega | (simp <;> omega) | simp)) | (with_reducible refine Below.trans ?_ (Below.mono (by with_reducible assumption) ?_); rotate_left; (first | omega | (simp <;> omega) | simp)))) : Below w.heap.size w _) hB).mono (by omega)) ((row2 (by simp [go_sem]) (by simp [go_sem])).mono (by simp))).mono ?_
  rintro e w1 ⟨rfl, hb1⟩
  have k0 := cu_below hb1 (p := ⟨w.heap.size, 0, none⟩) (v := .int .i64 (n : Int)) (by simp [go_sem]) (by simp; omega)
  have k1 := cu_below hb1 (p := ⟨w.heap.size, 1, none⟩) (v := .slice a m cap) (by simp [go_sem]) (by simp; omega)
  have hb2 := hide ((((by repeat (first | with_reducible exact Below.refl _ _ | with_reducible assumption | with_reducible refine up_drewN ?_ | with_reducible refine up_drew ?_ | (with_reducible refine up_alloc ?_ ?_; rotate_left; (first | omega | (simp <;> omega) | simp)) | (with_reducible refine up_set ?_ ?_; rotate_left; (first | omega | (simp <;> omega) | simp)) | (with_reducible refine Below.trans ?_ (Below.mono (by with_reducible assumption) ?_); rotate_left; (first | omega | (simp <;> omega) | simp)))) : Below w.heap.size w _)).trans (hb1.mono (by simp; omega)))
  have hz1 : w.heap.size < w1.heap.size := cell_lt k0
  clear hb1 hL
  go_wp2_with fail
  refine (hCp.out _ hb2.out).mono ?_
  rintro e w2 ⟨v2, rfl, eo, hb3⟩
  obtain ⟨ae, ec, rfl, hrow2, -⟩ := eo.row lenE
  rw [← hm.out] at eo
  have hz12 := hb3.size
  have hb4 := hide (hb2.out.trans (hb3.mono hb2.out.size))
  rw [← hm.out]
  replace k0 := cu_below hb3 k0 hz1
  have hev := hide (fun j hj => eo.block_lt j hj)
  clear hb2 hb3 k1 hCp
  go_wp2_with fail
  refine (newS_any 117 w2).mono ?_
  rintro e w3 ⟨rfl, rfl⟩
  obtain ⟨gh, hgh⟩ : ∃ gh, gh = w2.heap.size := ⟨_, rfl⟩
  obtain ⟨pb, hpb⟩ : ∃ pb, pb = w2.heap.size + 1 := ⟨_, rfl⟩
  obtain ⟨w4, hw4⟩ : ∃ w4, w4 = (w2.alloc (.cells #[.func (.func 117) #[] #[], .slice none 0 0] 221)).alloc (.cells #[.int .i64 (n : Int), .slice ae m ec, .slice none 0 0, .slice none 0 0, .int .i64 (s : Int), .int .i64 (t : Int), .slice none 0 0, .slice none 0 0, .pointer (some ⟨w2.heap.size, 0, none⟩), .int .i64 0] 164) := ⟨_, rfl⟩
  go_upto_region 5 with fail
  simp only [← hw4]
  simp only [← hpb]
  simp only [← hgh]
  have q0 : w4.cell? ⟨pb, 0, none⟩ = some (.int .i64 (n : Int)) := by rw [hw4, hpb]; simp [go_sem]
  have q1 : w4.cell? ⟨pb, 1, none⟩ = some (.slice ae m ec) := by rw [hw4, hpb]; simp [go_sem]
  have q2 : w4.cell? ⟨pb, 2, none⟩ = some (.slice none 0 0) := by rw [hw4, hpb]; simp [go_sem]
  have q3 : w4.cell? ⟨pb, 3, none⟩ = some (.slice none 0 0) := by rw [hw4, hpb]; simp [go_sem]
  have q4 : w4.cell? ⟨pb, 4, none⟩ = some (.int .i64 (s : Int)) := by rw [hw4, hpb]; simp [go_sem]
  have q5 : w4.cell? ⟨pb, 5, none⟩ = some (.int .i64 (t : Int)) := by rw [hw4, hpb]; simp [go_sem]
  have q6 : w4.cell? ⟨pb, 6, none⟩ = some (.slice none 0 0) := by rw [hw4, hpb]; simp [go_sem]
  have q7 : w4.cell? ⟨pb, 7, none⟩ = some (.slice none 0 0) := by rw [hw4, hpb]; simp [go_sem]
  have q8 : w4.cell? ⟨pb, 8, none⟩ = some (.pointer (some ⟨gh, 0, none⟩)) := by rw [hw4, hpb, hgh]; simp [go_sem]
  have q9 : w4.cell? ⟨pb, 9, none⟩ = some (.int .i64 0) := by rw [hw4, hpb]; simp [go_sem]
  have qf : ∀ o, w4.frozen? ⟨pb, o, none⟩ = false := fun o => by rw [hw4, hpb]; simp [go_sem]
  have hH4 : HeapS w4 gh gh (.func (.func 117) #[] #[]) (.slice none 0 0) 0 (fun _ => ⟨0, 0, 0⟩) := by rw [hw4, hgh]; exact (HeapS.fresh _ _ _ _).alloc _
  have eo4 := hide (show Own encE 3 34 w4 w1.heap.size (.slice ae m ec) es by rw [hw4]; exact (eo.alloc _).alloc _)
  have hb5 := hide (show Below w.heap.size w w4 by rw [hw4]; exact (hb4.out.alloc hb4.out.size _).alloc (by simp; have := hb4.out.size; omega) _)
  have k04 : w4.cell? ⟨w.heap.size, 0, none⟩ = some (.int .i64 (n : Int)) := by rw [hw4]; exact cu_alloc (cu_alloc k0)
  have hz4 : w4.heap.size = w2.heap.size + 1 + 1 := by rw [hw4]; simp
  have hzb : pb < w4.heap.size ∧ gh < pb ∧ w2.heap.size ≤ gh := by omega
  have hrow4 := hide (show Row encE 3 w4 w2.heap.size ae es by rw [hw4]; exact hrow2.below ((up_alloc (up_alloc (Below.refl _ _) (Nat.le_refl _)) (by simp)) : Below w2.heap.size w2 _) (Nat.le_refl _))
  have hrowAt := hide (show ∀ w', Keep (fun j => j = pb) w4 w' → Row encE 3 w' w'.heap.size ae es from fun w' kp => (kp.row hrow4.out (by omega) (fun k hk e => by omega)).mono (by have := kp.size; omega))
  have key0 := hide (show ∀ w' w'', (fun w' => Keep (fun j => j = pb) w4 w' ∧ w'.cell? ⟨pb, 0, none⟩ = some (.int .i64 (n : Int)) ∧ w'.cell? ⟨pb, 1, none⟩ = some (.slice ae m ec) ∧ w'.cell? ⟨pb, 2, none⟩ = some (.slice none 0 0) ∧ w'.frozen? ⟨pb, 2, none⟩ = false ∧ w'.frozen? ⟨pb, 3, none⟩ = false ∧ pb < w'.heap.size ∧ Hid (∀ o v, o ≠ 2 → o ≠ 3 → w4.cell? ⟨pb, o, none⟩ = some v → w'.cell? ⟨pb, o, none⟩ = some v) ∧ Hid (∀ o, w'.frozen? ⟨pb, o, none⟩ = false) ∧ ∃ u, w'.cell? ⟨pb, 3, none⟩ = some u) w' → Below w'.heap.size w' w'' → (fun w' => Keep (fun j => j = pb) w4 w' ∧ w'.cell? ⟨pb, 0, none⟩ = some (.int .i64 (n : Int)) ∧ w'.cell? ⟨pb, 1, none⟩ = some (.slice ae m ec) ∧ w'.cell? ⟨pb, 2, none⟩ = some (.slice none 0 0) ∧ w'.frozen? ⟨pb, 2, none⟩ = false ∧ w'.frozen? ⟨pb, 3, none⟩ = false ∧ pb < w'.heap.size ∧ Hid (∀ o v, o ≠ 2 → o ≠ 3 → w4.cell? ⟨pb, o, none⟩ = some v → w'.cell? ⟨pb, o, none⟩ = some v) ∧ Hid (∀ o, w'.frozen? ⟨pb, o, none⟩ = false) ∧ ∃ u, w'.cell? ⟨pb, 3, none⟩ = some u) w'' from fun w' w'' h hb => by
    obtain ⟨k1, k2, k3, k4, k5, k6, k7, kc, kf, u, k8⟩ := h
    exact ⟨k1.trans (Keep.new hb), cu_below hb k2 k7, cu_below hb k3 k7, cu_below hb k4 k7, fu_below hb k5 k7, fu_below hb k6 k7, by have := hb.size; omega, hide (fun o v h1 h2 h3 => cu_below hb (kc.out o v h1 h2 h3) k7), hide (fun o => fu_below hb (kf.out o) k7), u, cu_below hb k8 k7⟩)
  have keyS := hide (show ∀ w' v, (fun w' => Keep (fun j => j = pb) w4 w' ∧ w'.cell? ⟨pb, 0, none⟩ = some (.int .i64 (n : Int)) ∧ w'.cell? ⟨pb, 1, none⟩ = some (.slice ae m ec) ∧ w'.cell? ⟨pb, 2, none⟩ = some (.slice none 0 0) ∧ w'.frozen? ⟨pb, 2, none⟩ = false ∧ w'.frozen? ⟨pb, 3, none⟩ = false ∧ pb < w'.heap.size ∧ Hid (∀ o v, o ≠ 2 → o ≠ 3 → w4.cell? ⟨pb, o, none⟩ = some v → w'.cell? ⟨pb, o, none⟩ = some v) ∧ Hid (∀ o, w'.frozen? ⟨pb, o, none⟩ = false) ∧ ∃ u, w'.cell? ⟨pb, 3, none⟩ = some u) w' → (fun w' => Keep (fun j => j = pb) w4 w' ∧ w'.cell? ⟨pb, 0, none⟩ = some (.int .i64 (n : Int)) ∧ w'.cell? ⟨pb, 1, none⟩ = some (.slice ae m ec) ∧ w'.cell? ⟨pb, 2, none⟩ = some (.slice none 0 0) ∧ w'.frozen? ⟨pb, 2, none⟩ = false ∧ w'.frozen? ⟨pb, 3, none⟩ = false ∧ pb < w'.heap.size ∧ Hid (∀ o v, o ≠ 2 → o ≠ 3 → w4.cell? ⟨pb, o, none⟩ = some v → w'.cell? ⟨pb, o, none⟩ = some v) ∧ Hid (∀ o, w'.frozen? ⟨pb, o, none⟩ = false) ∧ ∃ u, w'.cell? ⟨pb, 3, none⟩ = some u) (w'.setCell ⟨pb, 3, none⟩ v) from fun w' v h => by
    obtain ⟨k1, k2, k3, k4, k5, k6, k7, kc, kf, u, k8⟩ := h
    exact ⟨k1.setCell (.inl rfl) _, cu_set_off k2 (by omega), cu_set_off k3 (by omega), cu_set_off k4 (by omega), fu_set k5, fu_set k6, by simpa using k7, hide (fun o v h1 h2 h3 => cu_set_off (kc.out o v h1 h2 h3) (by omega)), hide (fun o => fu_set (kf.out o)), v, World.cell?_setCell_same _ _ _ k8⟩)
  have hS0 := hide (show (fun w' => Keep (fun j => j = pb) w4 w' ∧ w'.cell? ⟨pb, 0, none⟩ = some (.int .i64 (n : Int)) ∧ w'.cell? ⟨pb, 1, none⟩ = some (.slice ae m ec) ∧ w'.cell? ⟨pb, 2, none⟩ = some (.slice none 0 0) ∧ w'.frozen? ⟨pb, 2, none⟩ = false ∧ w'.frozen? ⟨pb, 3, none⟩ = false ∧ pb < w'.heap.size ∧ Hid (∀ o v, o ≠ 2 → o ≠ 3 → w4.cell? ⟨pb, o, none⟩ = some v → w'.cell? ⟨pb, o, none⟩ = some v) ∧ Hid (∀ o, w'.frozen? ⟨pb, o, none⟩ = false) ∧ ∃ u, w'.cell? ⟨pb, 3, none⟩ = some u) w4 from ⟨Keep.refl _ _, q0, q1, q2, qf 2, qf 3, hzb.1, hide (fun o v _ _ h => h), hide qf, _, q3⟩)
  replace hz4 := hide hz4
  replace hw4 := hide hw4
  replace hgh := hide hgh
  replace hpb := hide hpb
  clear eo hb4 hrow2
  refine wp_region_end (S := (fun w' => Keep (fun j => j = pb) w4 w' ∧ w'.cell? ⟨pb, 0, none⟩ = some (.int .i64 (n : Int)) ∧ w'.cell? ⟨pb, 1, none⟩ = some (.slice ae m ec) ∧ w'.cell? ⟨pb, 2, none⟩ = some (.slice none 0 0) ∧ w'.frozen? ⟨pb, 2, none⟩ = false ∧ w'.frozen? ⟨pb, 3, none⟩ = false ∧ pb < w'.heap.size ∧ Hid (∀ o v, o ≠ 2 → o ≠ 3 → w4.cell? ⟨pb, o, none⟩ = some v → w'.cell? ⟨pb, o, none⟩ = some v) ∧ Hid (∀ o, w'.frozen? ⟨pb, o, none⟩ = false) ∧ ∃ u, w'.cell? ⟨pb, 3, none⟩ = some u)) (t := 18) (by kernel_rfl) ?_ (fun hHeld hInv => ?_)
  · exact key0.out _ _ hS0.out (below_drew _)
  replace hInv := hide hInv
  refine planE [0, 1, 2, 3, 4, 5, 7, 8, 9, 10] ?_
  iterate 10
    refine PlanE.take (v := ?_) (List.getElem?_toArray.trans rfl) (by kernel_rfl) (fun _ _ _ h => h) (Or.inl ⟨by rfl, ?_⟩) hInv.out (by assumption) (fun hInv' => ?_)
    rotate_left
    · intro w hSw; (try dsimp only at hSw); go_simp; (try with_reducible rfl)
    replace hInv := hide hInv'; clear hInv'; try simp only [Act.put, List.setIfInBounds_toArray, List.set_cons_zero, List.set_cons_succ]
  refine wpAnyE_one (i := 6) (List.getElem?_toArray.trans rfl) (by kernel_rfl) (fun K hK => ?_) hInv.out
  (go_simp; refine (hOs.out ae ec _ (hrowAt.out _ hHeld.1)).mono ?_; rintro e w5 ⟨O, rfl, oO, hb6⟩; replace oO := hide (OutsAt.made oO))
  have hHeld := key0.out _ _ hHeld hb6
  refine hK.out _ _ (fun _ => hHeld) (fun hInv' => ?_)
  clear hK K; replace hInv := hide (hInv' (by decide)); clear hInv'; try simp only [Act.put, List.setIfInBounds_toArray, List.set_cons_zero, List.set_cons_succ]
  refine wpAnyE_one (i := 11) (List.getElem?_toArray.trans rfl) (by kernel_rfl) (fun K hK => ?_) hInv.out
  (go_simp; refine (hTn.out ae ec _ (hrowAt.out _ hHeld.1)).mono ?_; rintro e w6 ⟨at6, ct6, rfl, hr6, hb7⟩)
  have hHeld := key0.out _ _ hHeld hb7
  refine hK.out _ _ (fun _ => hHeld) (fun hInv' => ?_)
  clear hK K; replace hInv := hide (hInv' (by decide)); clear hInv'; try simp only [Act.put, List.setIfInBounds_toArray, List.set_cons_zero, List.set_cons_succ]
  refine wpAnyE_one (i := 12) (List.getElem?_toArray.trans rfl) (by kernel_rfl) (fun K hK => ?_) hInv.out
  (go_simp; refine (hOt.out at6 ct6 _ hr6).mono ?_; rintro e w7 ⟨I, rfl, oI, hb8⟩; replace oI := hide (OutsAt.made oI))
  have hHeld := key0.out _ _ hHeld hb8
  refine hK.out _ _ (fun _ => hHeld) (fun hInv' => ?_)
  clear hK K; replace hInv := hide (hInv' (by decide)); clear hInv'; try simp only [Act.put, List.setIfInBounds_toArray, List.set_cons_zero, List.set_cons_succ]
  refine planE [13, 14] ?_
  iterate 2
    refine PlanE.take (v := ?_) (List.getElem?_toArray.trans rfl) (by kernel_rfl) (fun _ _ _ h => h) (Or.inl ⟨by rfl, ?_⟩) hInv.out (by assumption) (fun hInv' => ?_)
    rotate_left
    · intro w hSw; (try dsimp only at hSw); go_simp; (try with_reducible rfl)
    replace hInv := hide hInv'; clear hInv'; try simp only [Act.put, List.setIfInBounds_toArray, List.set_cons_zero, List.set_cons_succ]
  refine wpAnyE_one (i := 15) (List.getElem?_toArray.trans rfl) (by kernel_rfl) (fun K hK => ?_) hInv.out
  (obtain ⟨u3, h3⟩ := hHeld.2.2.2.2.2.2.2.2.2; (try dsimp only at hHeld); go_simp)
  have hHeld := keyS.out _ (.slice (some ⟨O, 0, none⟩) n n) hHeld
  refine hK.out _ _ (fun _ => hHeld) (fun hInv' => ?_)
  clear hK K; replace hInv := hide (hInv' (by decide)); clear hInv'; try simp only [Act.put, List.setIfInBounds_toArray, List.set_cons_zero, List.set_cons_succ]
  refine planE [16, 17] ?_
  iterate 2
    refine PlanE.take (v := ?_) (List.getElem?_toArray.trans rfl) (by kernel_rfl) (fun _ _ _ h => h) (Or.inl ⟨by rfl, ?_⟩) hInv.out (by assumption) (fun hInv' => ?_)
    rotate_left
    · intro w hSw; (try dsimp only at hSw); go_simp; (try with_reducible rfl)
    replace hInv := hide hInv'; clear hInv'; try simp only [Act.put, List.setIfInBounds_toArray, List.set_cons_zero, List.set_cons_succ]
  refine wpAnyE_one (i := 18) (List.getElem?_toArray.trans rfl) (by kernel_rfl) (fun K hK => ?_) hInv.out
  (try dsimp only at hHeld); go_simp
  refine hK.out _ _ (fun h => absurd rfl h) (fun _ => ?_)
  clear hK K hInv; try simp only [Act.put, List.setIfInBounds_toArray, List.set_cons_zero, List.set_cons_succ]
  refine wpAnyE_done (by kernel_rfl) ?_ _
  obtain ⟨wz, hwz⟩ : ∃ wz, wz = (w7.setCell ⟨pb, 3, none⟩ (.slice (some ⟨O, 0, none⟩) n n)).setCell ⟨pb, 2, none⟩ (.slice (some ⟨I, 0, none⟩) n n) := ⟨_, rfl⟩
  have hkz := hHeld.1.setCell (p := ⟨pb, 2, none⟩) (.inl rfl) (.slice (some ⟨I, 0, none⟩) n n)
  rw [← hwz] at hkz
  have hzz : pb < wz.heap.size := by have := hkz.size; omega
  have hcz : ∀ o v, o ≠ 2 → o ≠ 3 → w4.cell? ⟨pb, o, none⟩ = some v → wz.cell? ⟨pb, o, none⟩ = some v := fun o v h1 h2 h3 => by rw [hwz]; exact cu_set_off (hHeld.2.2.2.2.2.2.2.1.out o v h1 h2 h3) (by omega)
  have zf : ∀ o, wz.frozen? ⟨pb, o, none⟩ = false := fun o => by rw [hwz]; exact fu_set (hHeld.2.2.2.2.2.2.2.2.1.out o)
  have z6 := hcz 6 _ (by omega) (by omega) q6
  have z7 := hcz 7 _ (by omega) (by omega) q7
  have z2 : wz.cell? ⟨pb, 2, none⟩ = some (.slice (some ⟨I, 0, none⟩) n n) := by rw [hwz]; exact World.cell?_setCell_same _ _ _ hHeld.2.2.2.1
  have z3 : wz.cell? ⟨pb, 3, none⟩ = some (.slice (some ⟨O, 0, none⟩) n n) := by rw [hwz]; exact cu_set_off (World.cell?_setCell_same _ _ _ h3) (by omega)
  have hNX0 := hide (show NX wz pb none none 0 0 0 wz from ⟨Keep.refl _ _, z6, z7, fun _ _ _ _ h => h, zf, Own.nil _ _, Own.nil _ _, fun j hj => by simp [Value.ownBlock] at hj, hzz⟩)
  have r3 : wz.cell? ⟨w.heap.size, 0, none⟩ = some (.int .i64 (n : Int)) := hkz.cu k04 (by have := hgh.out; have := hpb.out; show w.heap.size ≠ pb; omega)
  have zr3 := cell_lt r3
  simp only at zr3
  have hLX := hide (fun g6 g7 d6 d7 wr (hN : NX wz pb (some ⟨g6, 0, none⟩) (some ⟨g7, 0, none⟩) d6 d7 n wr) => new_lx hN hb5.out hkz (hcz 0 _ (by omega) (by omega) q0) (hcz 1 _ (by omega) (by omega) q1) z2 z3 (hcz 4 _ (by omega) (by omega) q4) (hcz 5 _ (by omega) (by omega) q5) (hcz 8 _ (by omega) (by omega) q8) (hcz 9 _ (by omega) (by omega) q9) (eo4.out.base_le (by omega)) (fun j hj => by have := (hev.out j hj).2; omega) ⟨by omega, hzb.2.1, hzb.1⟩ hH4)
  have hTb := hide (show ∀ g6 g7 d6 d7 wr, NX wz pb (some ⟨g6, 0, none⟩) (some ⟨g7, 0, none⟩) d6 d7 n wr → LTab wr w6.heap.size w7.heap.size w4.heap.size w5.heap.size n pb g6 g7 gh I O (.slice ae m ec) es from fun g6 g7 d6 d7 wr hN => by
    have s5 := hb6.size
    have s6 := hb7.size
    have s7 := hb8.size
    have sz : wz.heap.size = w7.heap.size := by rw [hwz]; simp
    have b6 := hN.o6.block_lt g6 rfl
    have b7 := hN.o7.block_lt g7 rfl
    simp at s5
    refine ⟨?_, ?_, fun k hk hx => ?_⟩
    · have kz : Keep (fun j => j = pb) w7 wz := by rw [hwz]; exact ((Keep.refl (fun j => j = pb) w7).setCell (p := ⟨pb, 3, none⟩) (.inl rfl) _).setCell (p := ⟨pb, 2, none⟩) (.inl rfl) _
      exact oI.out.later (kz.trans hN.kp) (fun k h1 h2 e => by omega)
    · have kz : Keep (fun j => j = pb) w7 wz := by rw [hwz]; exact ((Keep.refl (fun j => j = pb) w7).setCell (p := ⟨pb, 3, none⟩) (.inl rfl) _).setCell (p := ⟨pb, 2, none⟩) (.inl rfl) _
      exact ((oO.out.stays hb7).stays hb8).later (kz.trans hN.kp) (fun k h1 h2 e => by simp at h1; omega)
    · rcases hx with h | h | h | h | h
      · omega
      · omega
      · omega
      · omega
      · have := (hev.out k h).2; omega)
  have hsz := hide (show w.heap.size ≤ w6.heap.size ∧ w6.heap.size ≤ w7.heap.size ∧ w.heap.size ≤ w4.heap.size ∧ w5.heap.size ≤ w7.heap.size ∧ w7.heap.size = wz.heap.size from by
    have s5 := hb6.size
    have s6 := hb7.size
    have s7 := hb8.size
    have sz : wz.heap.size = w7.heap.size := by rw [hwz]; simp
    simp at s5
    omega)
  clear hHeld hOs hTn hOt key0 keyS hS0
  simp only [← hwz]
  replace hwz := hide hwz
  go_wp2
  go_loopw [44] (fun i wr => ∃ (k k6 k7 : Nat) (a6 a7 : Option Addr), k ≤ n ∧ i = .int .i64 (k : Int) ∧ Hid (NX wz pb a6 a7 k6 k7 k wr)) (fun i _ => n - (intOf i).toNat)
  case atStart => exact ⟨0, 0, 0, none, none, Nat.zero_le _, rfl, hNX0⟩
  case round =>
    clear hNX0 r3 zr3
    obtain ⟨k, k6, k7, a6, a7, hk, rfl, hN⟩ := hrel
    by_cases hlt : k < n
    · have c6 := hN.out.c6
      have c7 := hN.out.c7
      have f6 := hN.out.fz 6
      have f7 := hN.out.fz 7
      have zp := cell_lt c6
      simp only at zp
      have hlk : (LI k (fun _ => (1099511627776 : Int))).length = k := li_len _ _
      have hzw : wz.heap.size ≤ wr.heap.size := hN.out.kp.size
      have hpz := hN.out.lt
      have o6 := hN.out.o6
      have o7 := hN.out.o7
      have hkp := hN.out.kp
      have hb6p : (Value.slice a6 k k6).ownBlock ≠ some pb := fun e => by have := (o6.block_lt _ e).1; omega
      have hb7p : (Value.slice a7 k k7).ownBlock ≠ some pb := fun e => by have := (o7.block_lt _ e).1; omega
      have hb60 : (Value.slice a6 k k6).ownBlock ≠ some wr.heap.size := fun e => by have := (o6.block_lt _ e).2; omega
      have hb61 : (Value.slice a6 k k6).ownBlock ≠ some (wr.heap.size + 1) := fun e => by have := (o6.block_lt _ e).2; omega
      have hap := hide hN.out.ap
      have hcx := hide hN.out.cx
      have hfz := hide hN.out.fz
      replace o6 := hide o6
      replace o7 := hide o7
      replace hkp := hide hkp
      clear hN
      go_wp2
      have o7b := fun j hj => o7.out.block_lt j hj
      go_region_law (first
        | (refine step_pushL2 (e := 3) (enc := encI) (base := wz.heap.size) (xs := LI k (fun _ => 1099511627776)) (v := .slice a6 k k6) rfl (.tmp 51) (.tmp 52) 29 rfl _ 8 Try.underlying29 info_int rfl (by omega) lenI oneI k hlk rfl (by repeat (first | with_reducible exact o6.out | with_reducible refine Own.alloc ?_ _ | with_reducible refine Own.drew ?_)) _ 1 1099511627776 rfl (fresh_far _ (by simp [go_sem, Addr.add])) (by omega) (by unfold maxLen; omega) (by first | omega | (simp; done) | (simp; omega) | (simp at hz6 ⊢; omega)) ?_; intro g6 d6 w6' own6 hg6 hat6 hlt6; have hz6 := hg6.size; have ma := fun h => hg6.cell (a := ⟨wr.heap.size, 0, none⟩) (v := .int .i64 1099511627776) h (fun e => hb60 e.symm); have mb := fun h => hg6.cell (a := ⟨wr.heap.size + 1, 0, none⟩) (v := .int .i64 1099511627776) h (fun e => hb61 e.symm); have kx6 := Keep.grown (S := fun j => j = pb) (by repeat (first | with_reducible exact hkp.out | with_reducible refine Keep.alloc ?_ _ | with_reducible refine Keep.drew ?_)) hg6 (fun j hj => .inr (o6.out.block_lt j hj).1); have c7 := hg6.cell (a := ⟨pb, 7, none⟩) (v := .slice a7 k k7) (by repeat (first | with_reducible exact c7 | with_reducible refine cu_alloc ?_ | with_reducible refine cu_drew ?_)) (fun e => hb6p e.symm); have zp6 : pb < w6'.heap.size := cell_lt c7; have c6 := hg6.cell (a := ⟨pb, 6, none⟩) (v := .slice a6 k k6) (by repeat (first | with_reducible exact c6 | with_reducible refine cu_alloc ?_ | with_reducible refine cu_drew ?_)) (fun e => hb6p e.symm); have hcx := hide (show ∀ o v, o ≠ 6 → o ≠ 7 → wz.cell? ⟨pb, o, none⟩ = some v → w6'.cell? ⟨pb, o, none⟩ = some v from fun o v h1 h2 h3 => hg6.cell (by repeat (first | with_reducible exact (hcx.out o v h1 h2 h3) | with_reducible refine cu_alloc ?_ | with_reducible refine cu_drew ?_)) (fun e => hb6p e.symm)); have hfz := hide (show ∀ o, w6'.frozen? ⟨pb, o, none⟩ = false from fun o => (hg6.frozen_far ⟨pb, o, none⟩ (by first | omega | (simp; done) | (simp; omega) | (simp at hz6 ⊢; omega)) (fun e => hb6p e.symm)).trans (by repeat (first | with_reducible exact (hfz.out o) | with_reducible refine fu_alloc ?_ | with_reducible refine fu_drew ?_))); have f6 := hfz.out 6; have f7 := hfz.out 7; have kp6 := Keep.grown (S := fun j => (Value.slice a6 k k6).ownBlock = some j) (Keep.refl _ _) hg6 (fun j hj => .inl hj); have o7 := hide (show Own encI 1 3 w6' wz.heap.size (.slice a7 k k7) (LI k (fun _ => 1099511627776)) from kp6.own (by repeat (first | with_reducible exact o7.out | with_reducible refine Own.alloc ?_ _ | with_reducible refine Own.drew ?_)) (fun j hj e => hap.out j e hj)); have hn67 := hide (show (Value.slice a7 k k7).ownBlock ≠ some g6 from fun e => by (rcases hat6 with h | h; (exact hap.out g6 h e); (have := (o7b _ e).2; simp at h; omega))); have o6n := hide own6)
        | (refine step_pushL2 (e := 3) (enc := encI) (base := wz.heap.size) (xs := LI k (fun _ => 1099511627776)) (v := .slice a7 k k7) rfl (.tmp 57) (.tmp 58) 29 rfl _ 8 Try.underlying29 info_int rfl (by omega) lenI oneI k hlk rfl (by repeat (first | with_reducible exact o7.out | with_reducible refine Own.alloc ?_ _ | with_reducible refine Own.drew ?_)) _ 1 1099511627776 rfl (fresh_far _ (by first | (simp [go_sem, Addr.add]; done) | exact ma (by simp [go_sem]) | exact mb (by simp [go_sem]))) (by omega) (by unfold maxLen; omega) (by first | omega | (simp; done) | (simp; omega) | (simp at hz6 ⊢; omega)) ?_; intro g7 d7 w7' own7 hg7 hat7 hlt7; have hz7 := hg7.size; have kx7 := Keep.grown (S := fun j => j = pb) (by repeat (first | with_reducible exact kx6 | with_reducible refine Keep.alloc ?_ _ | with_reducible refine Keep.drew ?_)) hg7 (fun j hj => .inr (o7.out.block_lt j hj).1); have c7 := hg7.cell (a := ⟨pb, 7, none⟩) (v := .slice a7 k k7) (by repeat (first | with_reducible exact c7 | with_reducible refine cu_alloc ?_ | with_reducible refine cu_drew ?_)) (fun e => hb7p e.symm); have zp7 : pb < w7'.heap.size := cell_lt c7; have c6 := hg7.cell (a := ⟨pb, 6, none⟩) (v := .slice a6 k k6) (by repeat (first | with_reducible exact c6 | with_reducible refine cu_alloc ?_ | with_reducible refine cu_drew ?_)) (fun e => hb7p e.symm); have hcx := hide (show ∀ o v, o ≠ 6 → o ≠ 7 → wz.cell? ⟨pb, o, none⟩ = some v → w7'.cell? ⟨pb, o, none⟩ = some v from fun o v h1 h2 h3 => hg7.cell (by repeat (first | with_reducible exact (hcx.out o v h1 h2 h3) | with_reducible refine cu_alloc ?_ | with_reducible refine cu_drew ?_)) (fun e => hb7p e.symm)); have hfz := hide (show ∀ o, w7'.frozen? ⟨pb, o, none⟩ = false from fun o => (hg7.frozen_far ⟨pb, o, none⟩ (by first | omega | (simp; done) | (simp; omega) | (simp at hz6 ⊢; omega)) (fun e => hb7p e.symm)).trans (by repeat (first | with_reducible exact (hfz.out o) | with_reducible refine fu_alloc ?_ | with_reducible refine fu_drew ?_))); have f6 := hfz.out 6; have f7 := hfz.out 7; have kp7 := Keep.grown (S := fun j => (Value.slice a7 k k7).ownBlock = some j) (Keep.refl _ _) hg7 (fun j hj => .inl hj); have o6e := hide (show Own encI 1 3 w7' wz.heap.size (.slice (some ⟨g6, 0, none⟩) (k + 1) d6) (LI k (fun _ => 1099511627776) ++ [1099511627776]) from kp7.own (by repeat (first | with_reducible exact o6n.out | with_reducible refine Own.alloc ?_ _ | with_reducible refine Own.drew ?_)) (fun j hj e => hn67.out (by simp only [Value.ownBlock, Option.some.injEq] at hj; rw [hj]; exact e)))))
      all_goals
        have hne67 := hide (show g7 ≠ g6 from fun e => by
          rcases hat7 with h | h
          · exact hn67.out (by rw [h, e])
          · first | omega | (simp at h; omega))
        have hN2 := hide (show NX wz pb (some ⟨g6, 0, none⟩) (some ⟨g7, 0, none⟩) d6 d7 (k + 1) ((w7'.setCell ⟨pb, 6, none⟩ (.slice (some ⟨g6, 0, none⟩) (k + 1) d6)).setCell ⟨pb, 7, none⟩ (.slice (some ⟨g7, 0, none⟩) (k + 1) d7)) from by
          have hp6 : g6 ≠ pb := fun e => by have := (o6n.out.block_lt g6 rfl).1; omega
          have hp7 : g7 ≠ pb := fun e => by have := (own7.block_lt g7 rfl).1; omega
          refine ⟨(kx7.setCell (.inl rfl) _).setCell (.inl rfl) _, cu_set_off (World.cell?_setCell_same _ _ _ c6) (by omega), World.cell?_setCell_same _ _ _ (cu_set_off c7 (by omega)), fun o v h1 h2 h3 => cu_set_off (cu_set_off (hcx.out o v h1 h2 h3) (by omega)) (by omega), fun o => fu_set (fu_set (hfz.out o)), ?_, ?_, ?_, hpz⟩
          · rw [li_succ]; exact (o6e.out.elsewhere (by simp [Value.ownBlock]; exact hp6) _).elsewhere (by simp [Value.ownBlock]; exact hp6) _
          · rw [li_succ]; exact (own7.elsewhere (by simp [Value.ownBlock]; exact hp7) _).elsewhere (by simp [Value.ownBlock]; exact hp7) _
          · intro j h1 h2
            simp only [Value.ownBlock, Option.some.injEq] at h1 h2
            exact hne67.out (by rw [h1, h2]))
        generalize ((w7'.setCell ⟨pb, 6, none⟩ (.slice (some ⟨g6, 0, none⟩) (k + 1) d6)).setCell ⟨pb, 7, none⟩ (.slice (some ⟨g7, 0, none⟩) (k + 1) d7)) = w8 at hN2 ⊢
        clear own6 own7 hg6 hg7 hat6 hat7 kx6 kx7 kp6 kp7 o6e o6n o6 o7 c6 c7 f6 f7 hcx hfz hap hkp
        go_wp2
        go_roundw
        case rel => exact ⟨k + 1, _, _, _, _, by omega, by go_num, hN2⟩
        case measure => simp [intOf]; omega
    · --AFTER
      have hkn : n = k := by omega
      subst hkn
      obtain ⟨g6, rfl, -, -⟩ := hN.out.o6.blockI' (by omega)
      obtain ⟨g7, rfl, -, -⟩ := hN.out.o7.blockI' (by omega)
      have hX := hLX.out _ _ _ _ _ hN.out
      have hT := hide (hTb.out _ _ _ _ _ hN.out)
      have c7 := hN.out.c7
      have d1 := hN.out.o7.atI s hs
      have fl := hN.out.o7.free s
      have zp := cell_lt c7
      have zl := cell_lt d1
      simp only at zp zl
      have iu : (0 : Int) ≤ (s : Int) ∧ (s : Int) < (n : Int) := by omega
      have hzw := hN.out.kp.size
      have hX2 := hide (letI : LFr := LFr.from w (fun _ => False); hX.setL s hs 0)
      clear hX hN hLX hTb
      obtain ⟨w8, hw8⟩ : ∃ w8, w8 = wr.setCell ⟨g7, s, none⟩ (.int .i64 0) := ⟨_, rfl⟩
      rw [← hw8] at hX2
      have hsz8 : w8.heap.size = wr.heap.size := by rw [hw8]; simp
      have hPut := hide (letI : LFr := LFr.from w (fun _ => False); lput_any s hs hX2.out (by omega) (fun i h1 h2 => by omega))
      go_upto_region 11 with fail
      simp only [← hw8]
      replace hw8 := hide hw8
      clear c7 d1 fl
      go_wp2_with fail
      refine hPut.out.mono ?_
      rintro e w9 ⟨rfl, a1, q1', k1, f1, hX3, hP⟩
      go_wp2
      refine bodyPost_ret (v := .tuple #[.pointer (some ⟨pb, 0, none⟩), .int .i64 0]) (by simp [results, Try.results44, go_sem]) rfl ?_
      clear hPut
      have hm' := hm.out
      subst hm'
      letI J : LFr := LFr.from w (fun _ => False)
      have hk := hX3.keep
      have hnf := hX3.nf
      have hown := hX3.heap.own
      have hlt := fun j hj => hX3.own_lt (j := j) hj
      have hs1 := hsz.out
      have hk9 := hk.size
      have hE2 := led_of hR.out hp.out
      refine ⟨pb, q1', fun j => LXb pb g6 g7 gh (.slice ae es.length ec) j ∨ (Value.slice a1 q1' k1).ownBlock = some j, fun j => (w6.heap.size ≤ j ∧ j < w7.heap.size) ∨ (w4.heap.size ≤ j ∧ j < w5.heap.size), rfl, ⟨g6, g7, gh, k6, k7, I, O, ec, ae, _, _, _, _, a1, k1, f1, wr, hX3.rebase (Keep.refl (fun _ => False) w9) (fun _ _ e => e) rfl hk (lnf_true _), hT.out, hR.out, hp.out, hl, hn, hs, ht, hP.1, new_lok hE2, new_has hs hP, fun _ h => h, fun _ h => h, fun j hj => ?_⟩, hP.2.1, fun j hj => ?_, fun j hj => ?_, ?_⟩
      · rcases hj with hj | hj
        · exact Nat.lt_of_lt_of_le (hlt j hj) hk9
        · exact (hown.block_lt j hj).2
      · rcases hj with hj | hj
        · exact (hnf.2 j hj).elim False.elim id
        · omega
      · omega
      · exact hnf.1.toBelow (fun k hk => hk.elim) (Nat.le_refl _)
end Go.Proofs.Ytcehdpeeaogpiaa
