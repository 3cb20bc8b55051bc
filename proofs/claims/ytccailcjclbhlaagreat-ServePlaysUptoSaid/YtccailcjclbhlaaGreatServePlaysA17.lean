/-
  A part of the proof of ServePlays: SvC SvE SvF
-/
import Derived.Test.YtccailcjclbhlaaGreatServePlaysA16
/-! serve's Edit: what it answers and leaves. No condition. -/
namespace Go.Proofs.YtccailcjclbhlaaGreat
open Go.RowKit
set_option linter.unusedSimpArgs false
set_option linter.unusedVariables false
theorem cells_set {cs : List Int} {a : Nat} {g : Int} (h : ∀ c ∈ cs, 0 ≤ c ∧ c ≤ 9) (hg : 0 ≤ g ∧ g ≤ 9) : cellsErr (cs.set a g) = 0 := by
  have : ∀ l : List Int, (∀ c ∈ l, 0 ≤ c ∧ c ≤ 9) → cellsErr l = 0 := by
    intro l
    induction l with
    | nil => intro _; rfl
    | cons c r ih =>
      intro h
      have := h c (by simp)
      unfold cellsErr
      rw [if_neg (by omega)]
      exact ih (fun x hx => h x (by simp [hx]))
  refine this _ (fun c hc => ?_)
  rcases List.mem_or_eq_of_mem_set hc with q | q
  · exact h c q
  · rw [q]; exact hg
theorem grid_set {W H : Int} {cs : List Int} {a : Nat} {g : Int} (h : gridErr W H cs = 0) (hg : 0 ≤ g ∧ g ≤ 9) : gridErr W H (cs.set a g) = 0 := by
  obtain ⟨h1, h2, h3, h4, h5, h6⟩ := gridErr_ok h
  unfold gridErr
  rw [if_neg (by omega), if_neg (by rw [List.length_set]; omega)]
  exact cells_set h6 hg
theorem edK_zero (σ : Sv) (a : Nat) (g : Int) : σ.edK a g 0 = { σ with cs := σ.cs.set a g } := by
  unfold Sv.edK
  simp
theorem edK_none {σ : Sv} {a : Nat} {g : Int} {k : Nat} (h : σ.sl k = none) : σ.edK a g (k + 1) = σ.edK a g k := by
  unfold Sv.edK
  simp only [Sv.mk.injEq, true_and, and_true]
  funext i
  by_cases e : i = k
  · subst e; simp [h]
  · by_cases q : i < k
    · have h2 : i < k + 1 := by omega
      simp [q, h2]
    · have h2 : ¬ i < k + 1 := by omega
      simp [q, h2]
theorem edK_some {σ : Sv} {a : Nat} {g : Int} {k : Nat} {q : Sq} (h : σ.sl k = some q) : σ.edK a g (k + 1) = { σ.edK a g k with sl := upz (σ.edK a g k).sl k (some (again (gridNet σ.W σ.H (σ.cs.set a g) σ.cs.length) σ.cs.length q)) } := by
  unfold Sv.edK
  simp only [Sv.mk.injEq, true_and, and_true]
  funext i
  unfold upz
  by_cases e : i = k
  · subst e; simp [h]
  · rw [if_neg e]
    by_cases q : i < k
    · have h2 : i < k + 1 := by omega
      simp [q, h2]
    · have h2 : ¬ i < k + 1 := by omega
      simp [q, h2]
theorem edK_at {σ : Sv} {a : Nat} {g : Int} {k : Nat} : (σ.edK a g k).sl k = σ.sl k := by unfold Sv.edK; simp
/-- the edges of each while the k first are anew -/
def efK (σ : Sv) (a : Nat) (g : Int) (k : Nat) (i : Nat) : List Ed := if i < k then gridNet σ.W σ.H (σ.cs.set a g) σ.cs.length else σ.es
theorem efK_succ (σ : Sv) (a : Nat) (g : Int) (k : Nat) : efK σ a g (k + 1) = upz (efK σ a g k) k (gridNet σ.W σ.H (σ.cs.set a g) σ.cs.length) := by
  funext i
  unfold efK upz
  by_cases e : i = k
  · subst e; simp
  · rw [if_neg e]
    by_cases q : i < k
    · have h2 : i < k + 1 := by omega
      simp [q, h2]
    · have h2 : ¬ i < k + 1 := by omega
      simp [q, h2]
theorem edK_ok {σ : Sv} (h : SvOk σ) {a : Nat} {g : Int} (hg : 0 ≤ g ∧ g ≤ 9) (hp : ∀ i q, i < 6 → σ.sl i = some q → ∀ r ∈ q.s.told, r.path.length ≤ 64) : SvOk (σ.edK a g 6) := by
  refine ⟨grid_set h.g hg, h.u, fun i q hi hq => ?_⟩
  rw [show (σ.edK a g 6).sl i = (σ.sl i).map (again (gridNet σ.W σ.H (σ.cs.set a g) σ.cs.length) σ.cs.length) by unfold Sv.edK; simp [hi]] at hq
  cases hs : σ.sl i with
  | none => rw [hs] at hq; cases hq
  | some q0 =>
    rw [hs] at hq
    cases hq
    have h0 := h.q i q0 hi hs
    have hl : (σ.edK a g 6).cs.length = σ.cs.length := List.length_set
    refine ⟨by rw [hl]; exact h0.f, by rw [hl]; exact h0.t, h0.w, fun r hr => ?_⟩
    unfold again keptNow at hr
    simp only at hr
    cases hlast : q0.s.told.getLast? with
    | none => rw [hlast] at hr; exact h0.k r hr
    | some r' =>
      rw [hlast] at hr
      cases hr
      exact hp i q0 hi hs _ (List.mem_of_getLast? hlast)
theorem edK_es (σ : Sv) (a : Nat) (g : Int) (k : Nat) : (σ.edK a g k).es = gridNet σ.W σ.H (σ.cs.set a g) σ.cs.length := by
  unfold Sv.es Sv.edK
  simp
section
variable {σ : Sv} {ef : Nat → List Ed} {svb gc : Nat} {ga : Option Addr} {xs : Nat → Option Nat} {W N : Nat → Nat → Prop} {w w' : World}
theorem PSx.ef' (h : PSx σ ef svb ga gc xs W N w) {ef' : Nat → List Ed} (he : ∀ i, i < 6 → ef i = ef' i ∨ σ.sl i = none) : PSx σ ef' svb ga gc xs W N w := by
  refine ⟨h.lay, h.c0, h.c1, h.c2, h.cx, h.c9, h.fz, h.own, h.grd, h.gown, fun i hi => ?_⟩
  rcases he i hi with e | e
  · rw [← e]; exact h.sl i hi
  · exact .inl ⟨e, h.noneAt hi e⟩
theorem PSx.paths (h : PSx σ ef svb ga gc xs W N w) : ∀ i q, i < 6 → σ.sl i = some q → ∀ r ∈ q.s.told, r.path.length ≤ 64 := by
  intro i q hi hq
  obtain ⟨x, hx, sb, cw, aw, rv, A, C, hQ⟩ := h.someAt hi hq
  exact hQ.obj.inv.1.lp
/-- request k begun anew -/
theorem PSx.again (h : PSx σ ef svb ga gc xs W N w) {k : Nat} (hk : k < 6) {q : Sq} {x sb cw sb2 : Nat} {aw : Option Addr} {rv rv2 : RV} {A C A2 C2 : Nat → Prop} (hx : xs k = some x) (hQ : PQc (ef k) σ.cs.length q x sb cw aw rv A C (W k) (N k) w) (kp : Keep (fun j => j = x) w w') {es : List Ed} {q2 : Sq} (e1 : q2.f = q.f) (e2 : q2.t = q.t) (e3 : q2.ws = q.ws)
    (x0 : w'.cell? ⟨x, 0, none⟩ = some (.pointer (some ⟨sb2, 0, none⟩))) (x1 : w'.cell? ⟨x, 1, none⟩ = some (.int .i64 (q.f : Int))) (x2 : w'.cell? ⟨x, 2, none⟩ = some (.int .i64 (q.t : Int))) (x3 : w'.cell? ⟨x, 3, none⟩ = some (.slice aw q.ws.length cw)) (x4 : w'.cell? ⟨x, 4, none⟩ = some (.int .i64 rv2.na)) (x5 : w'.cell? ⟨x, 5, none⟩ = some (.int .i64 rv2.nb)) (x6 : w'.cell? ⟨x, 6, none⟩ = some (.slice rv2.pa rv2.pm rv2.pc)) (x7 : w'.cell? ⟨x, 7, none⟩ = some (.int .i64 rv2.rc)) (x8 : w'.cell? ⟨x, 8, none⟩ = some (.int .i64 rv2.dn)) (x9 : w'.cell? ⟨x, 9, none⟩ = some (.bool q2.kept.isSome)) (fz : ∀ o, w'.frozen? ⟨x, o, none⟩ = false)
    (hO : AObj σ.cs.length q.t es hZ q.ws q2.s sb2 A2 C2 w') (hA : ∀ j, A2 j ∨ C2 j → w.heap.size ≤ j) (hC : ∀ j, C2 j → j < w'.heap.size) (hAC : ∀ j, A2 j → ¬ C2 j) (hk2 : KeptAt w' rv2 q2.kept) (hp : ∀ j, (Value.slice rv2.pa rv2.pm rv2.pc).ownBlock = some j → (N k j ∨ (w.heap.size ≤ j ∧ j < w'.heap.size)) ∧ ¬ A2 j) :
    ∃ W' N', PSx { σ with sl := upz σ.sl k (some q2) } (upz ef k es) svb ga gc xs W' N' w' ∧ ∀ i j, W' i j ∨ N' i j → W i j ∨ N i j ∨ (w.heap.size ≤ j ∧ j < w'.heap.size) := by
  have hxs : x ≠ svb := fun e => by have := hQ.wx; rw [e] at this; exact absurd (h.lay.sep 6 k _ h.own this) (by omega)
  have hns : ¬ (svb = x) := fun e => hxs e.symm
  have hzx : x < w.heap.size := h.lay.lt k x (.inl hQ.wx)
  have zs : svb < w.heap.size := cell_lt h.c0
  have hwb : ∀ b o, aw = some ⟨b, o, none⟩ → ¬ (b = x) := fun b o e e2 => by have := hQ.wN b o e; rw [e2] at this; exact h.lay.ap k k x hQ.wx this
  have hQ2 : PQc es σ.cs.length q2 x sb2 cw aw rv2 A2 C2 (fun j => j = x ∨ A2 j) (fun j => C2 j ∨ (∃ o, aw = some ⟨j, o, none⟩) ∨ (Value.slice rv2.pa rv2.pm rv2.pc).ownBlock = some j) w' :=
    ⟨x0, by rw [e1]; exact x1, by rw [e2]; exact x2, by rw [e3]; exact x3, x4, x5, x6, x7, x8, x9, fz, by rw [e2, e3]; exact hO, by rw [e3]; exact ((row_keep hQ.wr kp hwb).mono kp.size), hk2, .inl rfl, fun hh => by have := hA _ (.inl hh); omega, fun j hh => .inr hh, fun j hh => .inl hh, fun j o e => .inr (.inl ⟨o, e⟩), fun j e => .inr (.inr e)⟩
  have hslot := h.slot hk kp (fun j e => .inr (by rw [e]; exact hQ.wx)) (fun o ho v hv => kp.cu hv hns) (x := some x) (by rw [← hx]; exact kp.cu (h.cx k hk) hns) (fun o => (kp.frozen (p := ⟨svb, o, none⟩) zs hns).trans (h.fz o)) (some q2) es (W' := fun j => j = x ∨ A2 j) (N' := fun j => C2 j ∨ (∃ o, aw = some ⟨j, o, none⟩) ∨ (Value.slice rv2.pa rv2.pm rv2.pc).ownBlock = some j) (fun j hh => ?_) (fun j hh => ?_) (fun j hh hn => ?_) (.inr ⟨_, _, rfl, rfl, sb2, cw, aw, rv2, A2, C2, hQ2⟩)
  · rw [← hx, upz_self] at hslot
    refine ⟨_, _, hslot, fun i j hj => ?_⟩
    by_cases e : i = k
    · subst e
      rw [upz_same, upz_same] at hj
      rcases hj with (hj | hj) | hj | ⟨o, hj⟩ | hj
      · exact .inl (by rw [hj]; exact hQ.wx)
      · exact .inr (.inr ⟨hA j (.inl hj), hO.lt hj⟩)
      · exact .inr (.inr ⟨hA j (.inr hj), hC j hj⟩)
      · exact .inr (.inl (hQ.wN j o hj))
      · exact .inr (hp j hj).1
    · rw [upz_other _ _ e, upz_other _ _ e] at hj
      rcases hj with hj | hj
      · exact .inl hj
      · exact .inr (.inl hj)
  · rcases hh with hh | hh
    · exact .inl (by rw [hh]; exact hQ.wx)
    · exact .inr ⟨hA j (.inl hh), hO.lt hh⟩
  · rcases hh with hh | ⟨o, hh⟩ | hh
    · exact .inr (.inr ⟨hA j (.inr hh), hC j hh⟩)
    · exact .inr (.inl (hQ.wN j o hh))
    · exact .inr (hp j hh).1
  · rcases hh with hh | hh
    · subst hh
      rcases hn with hn | ⟨o, hn⟩ | hn
      · have := hA j (.inr hn); omega
      · exact hwb j o hn rfl
      · rcases (hp j hn).1 with h3 | h3
        · exact h.lay.ap k k j hQ.wx h3
        · omega
    · rcases hn with hn | ⟨o, hn⟩ | hn
      · exact hAC j hh hn
      · have h1 := hA j (.inl hh)
        have h2 := h.lay.lt k j (.inr (hQ.wN j o hn))
        omega
      · exact (hp j hn).2 hh
end
/-- the round told last, where Rounds gives it -/
theorem rounds_last {B : Nat} {w : World} {a : Option Addr} {t c : Nat} {told : List RD} {r : RD} (h : RoundsAt B w (.slice a t c) told) (ht : told.length = t) (hr : told.getLast? = some r) : ∃ g rv, a = some ⟨g, 0, none⟩ ∧ 0 < t ∧ g < w.heap.size ∧ w.cell? ⟨g, (t - 1) * 5, none⟩ = some (.int .i64 rv.na) ∧ w.cell? ⟨g, (t - 1) * 5 + 1, none⟩ = some (.int .i64 rv.nb) ∧ w.cell? ⟨g, (t - 1) * 5 + 2, none⟩ = some (.slice rv.pa rv.pm rv.pc) ∧ w.cell? ⟨g, (t - 1) * 5 + 3, none⟩ = some (.int .i64 rv.rc) ∧ w.cell? ⟨g, (t - 1) * 5 + 4, none⟩ = some (.int .i64 rv.dn) ∧ RoundAt w B rv r := by
  obtain ⟨ros, h1, h2, h3⟩ := h
  have hpos : 0 < told.length := by
    cases told with
    | nil => cases hr
    | cons x l => simp
  have hrt : told[told.length - 1]'(by omega) = r := by
    have := List.getLast?_eq_getElem? (l := told)
    rw [hr, List.getElem?_eq_getElem (by omega)] at this
    exact (Option.some.inj this).symm
  obtain ⟨rv, g1, g2⟩ := h2.2 (told.length - 1) (by omega)
  rw [hrt] at g2
  have hrl : ros.length = t := by rw [h2.1]; exact ht
  have hi : t - 1 < ros.length := by omega
  rcases h1.form with ⟨e1, e2⟩ | ⟨g, cap, e1, e2, e3, e4⟩
  · rw [e2] at hrl; simp at hrl; omega
  · simp only [Value.slice.injEq] at e1
    obtain ⟨rfl, -, rfl⟩ := e1
    have hrv : ros[t - 1] = rv := by
      rw [ht] at g1
      exact (List.getElem?_eq_some_iff.1 g1).2
    refine ⟨g, rv, rfl, by omega, e3, ?_, ?_, ?_, ?_, ?_, g2⟩
    · simpa using h1.get lenR (t - 1) hi 0 _ (by rw [hrv]; rfl)
    · exact h1.get lenR (t - 1) hi 1 _ (by rw [hrv]; rfl)
    · exact h1.get lenR (t - 1) hi 2 _ (by rw [hrv]; rfl)
    · exact h1.get lenR (t - 1) hi 3 _ (by rw [hrv]; rfl)
    · exact h1.get lenR (t - 1) hi 4 _ (by rw [hrv]; rfl)
end Go.Proofs.YtccailcjclbhlaaGreat
/-! serve's Poll: what it answers. No condition. -/
namespace Go.Proofs.YtccailcjclbhlaaGreat
open Go.RowKit
set_option linter.unusedSimpArgs false
set_option linter.unusedVariables false
/-- an answer: status, round, error -/
def PollAns (a : Int × RD × Int) (w : World) (e : Ending) (w' : World) : Prop := ∃ pa pm pc, e = .returned (.tuple #[.agg #[.int .i64 a.1, .int .i64 a.2.1.wa, .int .i64 a.2.1.wb, .slice pa pm pc, .int .i64 a.2.1.cost, .int .i64 (a.2.1.done : Int)], .int .i64 a.2.2]) ∧ a.2.1.path.length = pm ∧ Row encI 1 w' w'.heap.size pa a.2.1.path ∧ Below w.heap.size w w'
theorem PollAns.none (st er : Int) (w w' : World) (hb : Below w.heap.size w w') : PollAns (st, rd0, er) w (.returned (.tuple #[.agg #[.int .i64 st, .int .i64 0, .int .i64 0, .slice none 0 0, .int .i64 0, .int .i64 0], .int .i64 er])) w' := ⟨_, _, _, rfl, rfl, Row.nil _ _ _ _ _, hb⟩
theorem below_k {w w1 w' : World} (hb : Below w.heap.size w w1) (kp : Keep (fun j => j = w.heap.size) w1 w') : Below w.heap.size w w' := ((Keep.new (S := fun j => w.heap.size ≤ j) hb).trans (kp.mono (fun j _ e => Nat.le_of_eq e.symm))).toBelow (fun _ h => h) (Nat.le_refl _)
section
variable {σ : Sv} {svb : Nat} {P : Nat → Prop} {w : World}
theorem ppoll_out (id : Int) (h : id < 0 ∨ 6 ≤ id) :
    Calls Tryz.prog 20 #[.pointer (some ⟨svb, 0, none⟩), .int .i64 id] w (PollAns (0, rd0, 5) w) := by
  have hF := hide (fun (w' : World) => PollAns.none 0 5 w w')
  by_cases q1 : id < 0
  · have q2 : (id < 0) = True := by simp [q1]
    clear h q1
    go_enter Tryz.func20, Tryz.ntmps20
    go_wp2
    refine bodyPost_ret (v := .tuple #[.agg #[.int .i64 0, .int .i64 0, .int .i64 0, .slice none 0 0, .int .i64 0, .int .i64 0], .int .i64 5]) (by simp [results, Tryz.results20, go_sem]) rfl (hF.out _ (by exact bel))
  · have q2 : (id < 0) = False := by simp [q1]
    have q4 : (6 ≤ id) = True := by simp; omega
    clear h q1
    go_enter Tryz.func20, Tryz.ntmps20
    go_wp2
    refine bodyPost_ret (v := .tuple #[.agg #[.int .i64 0, .int .i64 0, .int .i64 0, .slice none 0 0, .int .i64 0, .int .i64 0], .int .i64 5]) (by simp [results, Tryz.results20, go_sem]) rfl (hF.out _ (by exact bel))
theorem ppoll_none (k : Nat) (hk : k < 6) (c0 : w.cell? ⟨svb, 3 + k, none⟩ = some (.pointer none)) :
    Calls Tryz.prog 20 #[.pointer (some ⟨svb, 0, none⟩), .int .i64 (k : Int)] w (PollAns (0, rd0, 5) w) := by
  have hF := hide (fun (w' : World) => PollAns.none 0 5 w w')
  have q2 : ((k : Int) < 0) = False := by simp
  have q4 : (6 ≤ (k : Int)) = False := by simp; omega
  have i1 : (0 : Int) ≤ (k : Int) ∧ (k : Int) < 6 := by omega
  have z0 := cell_lt c0
  simp only at z0
  go_enter Tryz.func20, Tryz.ntmps20
  go_wp2
  refine bodyPost_ret (v := .tuple #[.agg #[.int .i64 0, .int .i64 0, .int .i64 0, .slice none 0 0, .int .i64 0, .int .i64 0], .int .i64 5]) (by simp [results, Tryz.results20, go_sem]) rfl (hF.out _ (by exact bel))
set_option maxRecDepth 100000 in
set_option maxHeartbeats 4000000 in
theorem ppoll_some {es : List Ed} {n : Nat} {q : Sq} {x : Nat} {W N : Nat → Prop} (k : Nat) (hk : k < 6) (c0 : w.cell? ⟨svb, 3 + k, none⟩ = some (.pointer (some ⟨x, 0, none⟩))) (hQ : PQ es n q x W N w) (h64 : ∀ r, q.kept = some r → r.path.length ≤ 64) :
    Calls Tryz.prog 20 #[.pointer (some ⟨svb, 0, none⟩), .int .i64 (k : Int)] w (PollAns (pollQ (some q)) w) := by
  have q2 : ((k : Int) < 0) = False := by simp
  have q4 : (6 ≤ (k : Int)) = False := by simp; omega
  have i1 : (0 : Int) ≤ (k : Int) ∧ (k : Int) < 6 := by omega
  have zs := cell_lt c0
  simp only at zs
  obtain ⟨sb, cw, aw, rv, A, C, hQ⟩ := hQ
  have x0 := hQ.x0
  have zx : x < w.heap.size := cell_lt x0
  obtain ⟨ar, aw2, rc, wc, s5, s12⟩ := hQ.obj.cells
  have zb : sb < w.heap.size := cell_lt s5
  obtain ⟨hinv, htl, h8, h1, hn⟩ := hQ.obj.inv
  obtain ⟨T, hT⟩ : ∃ T, T = q.s.told.length := ⟨_, rfl⟩
  obtain ⟨m, hm⟩ : ∃ m, m = q.ws.length := ⟨_, rfl⟩
  have hR := fun (w' : World) (hb : Below w.heap.size w w') => aobj_rounds (hQ.obj.stays hb)
  rw [← hT] at hR s12 htl
  rw [← hm] at s5 htl h8 h1
  have hOv := hide (fun (w' : World) (hb : Below w.heap.size w w') => aover_any sb T rc m wc ar aw2 w' (cu_below hb s12 zb) (cu_below hb s5 zb))
  replace hR := hide hR
  cases hl : q.s.told.getLast? with
  | some r =>
    have hpq := hide (show pollQ (some q) = (if T = m then 4 else 2, r, 0) by unfold pollQ; simp only [hl, hT, hm])
    have hlast := hide (fun (w' : World) (B : Nat) (a : Option Addr) (c : Nat) (h : RoundsAt B w' (.slice a T c) q.s.told) => rounds_last h hT.symm hl)
    replace hT := hide hT
    replace hm := hide hm
    clear hQ hinv hl hn s12 s5
    go_enter Tryz.func20, Tryz.ntmps20
    go_wp2_with fail
    refine (hR.out _ (by exact bel)).mono ?_
    rintro e w1 ⟨al, cl, rfl, hRA, hb1⟩
    obtain ⟨gl, rv2, rfl, hpos, hgl, d0, d1, d2, d3, d4, hrd⟩ := hlast.out w1 _ _ _ hRA
    have j0 := cu_below hb1 (p := ⟨w.heap.size, 0, none⟩) (v := .int .i64 0) (by simp [go_sem]) (by simp)
    have j1 := cu_below hb1 (p := ⟨w.heap.size, 1, none⟩) (v := .int .i64 0) (by simp [go_sem]) (by simp)
    have j2 := cu_below hb1 (p := ⟨w.heap.size, 2, none⟩) (v := .int .i64 0) (by simp [go_sem]) (by simp)
    have j3 := cu_below hb1 (p := ⟨w.heap.size, 3, none⟩) (v := .slice none 0 0) (by simp [go_sem]) (by simp)
    have j4 := cu_below hb1 (p := ⟨w.heap.size, 4, none⟩) (v := .int .i64 0) (by simp [go_sem]) (by simp)
    have j5 := cu_below hb1 (p := ⟨w.heap.size, 5, none⟩) (v := .int .i64 0) (by simp [go_sem]) (by simp)
    have f0 := fu_below hb1 (p := ⟨w.heap.size, 0, none⟩) (by simp [go_sem]) (by simp)
    have f1 := fu_below hb1 (p := ⟨w.heap.size, 1, none⟩) (by simp [go_sem]) (by simp)
    have f2 := fu_below hb1 (p := ⟨w.heap.size, 2, none⟩) (by simp [go_sem]) (by simp)
    have f3 := fu_below hb1 (p := ⟨w.heap.size, 3, none⟩) (by simp [go_sem]) (by simp)
    have f4 := fu_below hb1 (p := ⟨w.heap.size, 4, none⟩) (by simp [go_sem]) (by simp)
    have f5 := fu_below hb1 (p := ⟨w.heap.size, 5, none⟩) (by simp [go_sem]) (by simp)
    have zw : w.heap.size < w1.heap.size := cell_lt j0
    have y0 := cu_below hb1 (p := ⟨x, 0, none⟩) (v := .pointer (some ⟨sb, 0, none⟩)) (by simp [go_sem, x0, zx]) (by simp; omega)
    have zx1 : x < w1.heap.size := by omega
    have hb2 : Below w.heap.size w w1 := ((Below.refl _ _).alloc (Nat.le_refl _) _).trans (hb1.mono (by simp))
    have hOv1 := hide (fun (w' : World) (hb : Below w1.heap.size w1 w') => hOv.out w' (hb2.trans (hb.mono hb2.size)))
    obtain ⟨u, hu⟩ : ∃ u, u = T - 1 := ⟨_, rfl⟩
    rw [← hu] at d0 d1 d2 d3 d4
    have hwu : IntKind.i64.wrap ((T : Int) - 1) = (u : Int) := by rw [IntWalk.i64_in _ (by omega)]; omega
    have i2 : (0 : Int) ≤ (u : Int) ∧ (u : Int) < (T : Int) := by omega
    have q6 : (0 < (T : Int)) = True := by simp; omega
    replace hu := hide hu
    have hpa := hrd.2.2.2.2.2
    have hpb := hpa.block_lt
    have hFin := hide (show ∀ (st : Int) (w' : World), st = (if T = m then 4 else 2) → Keep (fun j => j = w.heap.size) w1 w' → PollAns (pollQ (some q)) w (.returned (.tuple #[.agg #[.int .i64 st, .int .i64 rv2.na, .int .i64 rv2.nb, .slice rv2.pa rv2.pm rv2.pc, .int .i64 rv2.rc, .int .i64 rv2.dn], .int .i64 0])) w' from fun st w' hst kp => by
      rw [hpq.out, ← hst]
      obtain ⟨pa, pc, hev, hrow, -, -⟩ := hpa.row lenI
      refine ⟨rv2.pa, rv2.pm, rv2.pc, by rw [hrd.1, hrd.2.1, hrd.2.2.1, hrd.2.2.2.1], hrd.2.2.2.2.1.symm, ?_, below_k hb2 kp⟩
      simp only [Value.slice.injEq] at hev
      rw [hev.1]
      exact (row_keep hrow kp (fun b o e e2 => by have := (hpb b (by rw [hev.1, e]; rfl)).1; simp at this; omega)).mono kp.size)
    clear hrd hpa hpb hRA hR hlast hOv
    obtain ⟨b8, hb8⟩ : ∃ b8, b8 = w1.heap.size := ⟨_, rfl⟩
    obtain ⟨w8, hw8⟩ : ∃ w8, w8 = w1.alloc (.cells #[.int .i64 2, .int .i64 rv2.na, .int .i64 rv2.nb, .slice rv2.pa rv2.pm rv2.pc, .int .i64 rv2.rc, .int .i64 rv2.dn] 62) := ⟨_, rfl⟩
    have kp8 : Keep (fun j => j = w.heap.size) w1 w8 := by rw [hw8]; exact (Keep.refl _ _).alloc _
    have hb18 : Below w1.heap.size w1 w8 := by rw [hw8]; exact (Below.refl _ _).alloc (Nat.le_refl _) _
    have g0 : w8.cell? ⟨b8, 0, none⟩ = some (.int .i64 2) := by rw [hw8, hb8]; simp [go_sem]
    have g1 : w8.cell? ⟨b8, 1, none⟩ = some (.int .i64 rv2.na) := by rw [hw8, hb8]; simp [go_sem]
    have g2 : w8.cell? ⟨b8, 2, none⟩ = some (.int .i64 rv2.nb) := by rw [hw8, hb8]; simp [go_sem]
    have g3 : w8.cell? ⟨b8, 3, none⟩ = some (.slice rv2.pa rv2.pm rv2.pc) := by rw [hw8, hb8]; simp [go_sem]
    have g4 : w8.cell? ⟨b8, 4, none⟩ = some (.int .i64 rv2.rc) := by rw [hw8, hb8]; simp [go_sem]
    have g5 : w8.cell? ⟨b8, 5, none⟩ = some (.int .i64 rv2.dn) := by rw [hw8, hb8]; simp [go_sem]
    have gf : w8.frozen? ⟨b8, 0, none⟩ = false := by rw [hw8, hb8]; simp [go_sem]
    go_upto_region 7 with fail
    simp only [← hw8]
    simp only [← hb8]
    have zb8 : w.heap.size < b8 := by omega
    have zb81 : w1.heap.size ≤ b8 := by omega
    have zw8 : b8 < w8.heap.size := cell_lt g0
    have zx8 : x < w8.heap.size := by omega
    have y0 := cu_below hb18 y0 zx1
    have j0 := cu_below hb18 j0 zw
    have f0 := fu_below hb18 f0 zw
    have j1 := cu_below hb18 j1 zw
    have f1 := fu_below hb18 f1 zw
    have j2 := cu_below hb18 j2 zw
    have f2 := fu_below hb18 f2 zw
    have j3 := cu_below hb18 j3 zw
    have f3 := fu_below hb18 f3 zw
    have j4 := cu_below hb18 j4 zw
    have f4 := fu_below hb18 f4 zw
    have j5 := cu_below hb18 j5 zw
    have f5 := fu_below hb18 f5 zw
    have hOv2 := hide (hOv1.out w8 hb18)
    replace hw8 := hide hw8
    replace hb8 := hide hb8
    clear hOv1 hb1 hb18 hb2 d0 d1 d2 d3 d4
    go_wp2_with fail
    refine hOv2.out.mono ?_
    rintro e w9 ⟨rfl, kk, rfl⟩
    obtain ⟨w9, hw9⟩ : ∃ w9, w9 = w8.drewN kk := ⟨_, rfl⟩
    have kp9 : Keep (fun j => j = w.heap.size) w1 w9 := by rw [hw9]; exact kp8.drewN kk
    have j0 : w9.cell? ⟨w.heap.size, 0, none⟩ = some (.int .i64 0) := by rw [hw9]; exact cu_drewN j0
    have f0 : w9.frozen? ⟨w.heap.size, 0, none⟩ = false := by rw [hw9]; exact fu_drewN f0
    have j1 : w9.cell? ⟨w.heap.size, 1, none⟩ = some (.int .i64 0) := by rw [hw9]; exact cu_drewN j1
    have f1 : w9.frozen? ⟨w.heap.size, 1, none⟩ = false := by rw [hw9]; exact fu_drewN f1
    have j2 : w9.cell? ⟨w.heap.size, 2, none⟩ = some (.int .i64 0) := by rw [hw9]; exact cu_drewN j2
    have f2 : w9.frozen? ⟨w.heap.size, 2, none⟩ = false := by rw [hw9]; exact fu_drewN f2
    have j3 : w9.cell? ⟨w.heap.size, 3, none⟩ = some (.slice none 0 0) := by rw [hw9]; exact cu_drewN j3
    have f3 : w9.frozen? ⟨w.heap.size, 3, none⟩ = false := by rw [hw9]; exact fu_drewN f3
    have j4 : w9.cell? ⟨w.heap.size, 4, none⟩ = some (.int .i64 0) := by rw [hw9]; exact cu_drewN j4
    have f4 : w9.frozen? ⟨w.heap.size, 4, none⟩ = false := by rw [hw9]; exact fu_drewN f4
    have j5 : w9.cell? ⟨w.heap.size, 5, none⟩ = some (.int .i64 0) := by rw [hw9]; exact cu_drewN j5
    have f5 : w9.frozen? ⟨w.heap.size, 5, none⟩ = false := by rw [hw9]; exact fu_drewN f5
    have g0 : w9.cell? ⟨b8, 0, none⟩ = some (.int .i64 2) := by rw [hw9]; exact cu_drewN g0
    have g1 : w9.cell? ⟨b8, 1, none⟩ = some (.int .i64 rv2.na) := by rw [hw9]; exact cu_drewN g1
    have g2 : w9.cell? ⟨b8, 2, none⟩ = some (.int .i64 rv2.nb) := by rw [hw9]; exact cu_drewN g2
    have g3 : w9.cell? ⟨b8, 3, none⟩ = some (.slice rv2.pa rv2.pm rv2.pc) := by rw [hw9]; exact cu_drewN g3
    have g4 : w9.cell? ⟨b8, 4, none⟩ = some (.int .i64 rv2.rc) := by rw [hw9]; exact cu_drewN g4
    have g5 : w9.cell? ⟨b8, 5, none⟩ = some (.int .i64 rv2.dn) := by rw [hw9]; exact cu_drewN g5
    have gf : w9.frozen? ⟨b8, 0, none⟩ = false := by rw [hw9]; exact fu_drewN gf
    have hz9 : w9.heap.size = w8.heap.size := by rw [hw9]; simp
    simp only [← hw9]
    have zw9 : w.heap.size < w9.heap.size := by omega
    have zb9 : b8 < w9.heap.size := by omega
    replace hw9 := hide hw9
    clear kp8 y0
    by_cases hTm : T = m
    · have q7 : ((T : Int) == (m : Int)) = true := by simp [hTm]
      have hst : (4 : Int) = (if T = m then 4 else 2) := by rw [if_pos hTm]
      replace hst := hide hst
      clear hTm
      go_wp2
      refine bodyPost_ret (v := .tuple #[.agg #[.int .i64 4, .int .i64 rv2.na, .int .i64 rv2.nb, .slice rv2.pa rv2.pm rv2.pc, .int .i64 rv2.rc, .int .i64 rv2.dn], .int .i64 0]) (by simp [results, Tryz.results20, go_sem, j0, j1, j2, j3, j4, j5, zw9]) rfl (hFin.out 4 _ hst.out (by repeat (first | with_reducible exact Keep.refl _ _ | with_reducible assumption | with_reducible refine Keep.drewN ?_ _ | with_reducible refine Keep.drew ?_ | with_reducible refine Keep.alloc ?_ _ | (with_reducible refine Keep.setCell ?_ ?_ _; rotate_left; (first | exact .inl rfl | (right; simp; done) | (right; simp; omega))))))
    · have q7 : ((T : Int) == (m : Int)) = false := by simp; omega
      have hst : (2 : Int) = (if T = m then 4 else 2) := by rw [if_neg hTm]
      replace hst := hide hst
      clear hTm
      go_wp2
      refine bodyPost_ret (v := .tuple #[.agg #[.int .i64 2, .int .i64 rv2.na, .int .i64 rv2.nb, .slice rv2.pa rv2.pm rv2.pc, .int .i64 rv2.rc, .int .i64 rv2.dn], .int .i64 0]) (by simp [results, Tryz.results20, go_sem, j0, j1, j2, j3, j4, j5, zw9]) rfl (hFin.out 2 _ hst.out (by repeat (first | with_reducible exact Keep.refl _ _ | with_reducible assumption | with_reducible refine Keep.drewN ?_ _ | with_reducible refine Keep.drew ?_ | with_reducible refine Keep.alloc ?_ _ | (with_reducible refine Keep.setCell ?_ ?_ _; rotate_left; (first | exact .inl rfl | (right; simp; done) | (right; simp; omega))))))
  | none =>
    have hT0 : T = 0 := by rw [hT]; cases h : q.s.told with | nil => rfl | cons y l => rw [h] at hl; simp at hl
    subst hT0
    have x4 := hQ.x4
    have x5 := hQ.x5
    have x6 := hQ.x6
    have x7 := hQ.x7
    have x8 := hQ.x8
    have x9 := hQ.x9
    have hkp := hQ.kp
    cases hkq : q.kept with
    | none =>
      have hpq := hide (show pollQ (some q) = (1, rd0, 0) by unfold pollQ; simp only [hl, hkq])
      rw [hkq] at x9
      replace x9 : w.cell? ⟨x, 9, none⟩ = some (.bool false) := x9
      have hF := hide (fun (w' : World) (hb : Below w.heap.size w w') => show PollAns (pollQ (some q)) w _ w' from by rw [hpq.out]; exact PollAns.none 1 0 w w' hb)
      clear hQ hinv hl hn s12 s5 hT hm hOv hkp hkq h64 x4 x5 x6 x7 x8
      go_enter Tryz.func20, Tryz.ntmps20
      go_wp2_with fail
      refine (hR.out _ (by exact bel)).mono ?_
      rintro e w1 ⟨al, cl, rfl, hRA, hb1⟩
      have j0 := cu_below hb1 (p := ⟨w.heap.size, 0, none⟩) (v := .int .i64 0) (by simp [go_sem]) (by simp)
      have f0 := fu_below hb1 (p := ⟨w.heap.size, 0, none⟩) (by simp [go_sem]) (by simp)
      have j1 := cu_below hb1 (p := ⟨w.heap.size, 1, none⟩) (v := .int .i64 0) (by simp [go_sem]) (by simp)
      have f1 := fu_below hb1 (p := ⟨w.heap.size, 1, none⟩) (by simp [go_sem]) (by simp)
      have j2 := cu_below hb1 (p := ⟨w.heap.size, 2, none⟩) (v := .int .i64 0) (by simp [go_sem]) (by simp)
      have f2 := fu_below hb1 (p := ⟨w.heap.size, 2, none⟩) (by simp [go_sem]) (by simp)
      have j3 := cu_below hb1 (p := ⟨w.heap.size, 3, none⟩) (v := .slice none 0 0) (by simp [go_sem]) (by simp)
      have f3 := fu_below hb1 (p := ⟨w.heap.size, 3, none⟩) (by simp [go_sem]) (by simp)
      have j4 := cu_below hb1 (p := ⟨w.heap.size, 4, none⟩) (v := .int .i64 0) (by simp [go_sem]) (by simp)
      have f4 := fu_below hb1 (p := ⟨w.heap.size, 4, none⟩) (by simp [go_sem]) (by simp)
      have j5 := cu_below hb1 (p := ⟨w.heap.size, 5, none⟩) (v := .int .i64 0) (by simp [go_sem]) (by simp)
      have f5 := fu_below hb1 (p := ⟨w.heap.size, 5, none⟩) (by simp [go_sem]) (by simp)
      have zw : w.heap.size < w1.heap.size := cell_lt j0
      have y9 := cu_below hb1 (p := ⟨x, 9, none⟩) (v := .bool false) (by simp [go_sem, x9, zx]) (by simp; omega)
      have hb2 : Below w.heap.size w w1 := ((Below.refl _ _).alloc (Nat.le_refl _) _).trans (hb1.mono (by simp))
      clear hRA hR hb1
      go_wp2
      refine bodyPost_ret (v := .tuple #[.agg #[.int .i64 1, .int .i64 0, .int .i64 0, .slice none 0 0, .int .i64 0, .int .i64 0], .int .i64 0]) (by simp [results, Tryz.results20, go_sem, j0, j1, j2, j3, j4, j5, zw]) rfl (hF.out _ (by exact bel))
    | some r =>
      have hpq := hide (show pollQ (some q) = (3, r, 0) by unfold pollQ; simp only [hl, hkq])
      have hp64 := h64 r hkq
      rw [hkq] at x9 hkp
      replace x9 : w.cell? ⟨x, 9, none⟩ = some (.bool true) := x9
      have hrd : RoundAt w 0 rv r := hkp
      have hpm := hrd.2.2.2.2.1
      obtain ⟨pa, pc, hev, hrow, -, -⟩ := hrd.2.2.2.2.2.row lenI
      simp only [Value.slice.injEq] at hev
      rw [← hev.1] at hrow
      have hval := hide (show ∀ (av : Option Addr) (c : Nat), (Value.agg #[.int .i64 3, .int .i64 rv.na, .int .i64 rv.nb, .slice av rv.pm c, .int .i64 rv.rc, .int .i64 rv.dn]) = .agg #[.int .i64 3, .int .i64 r.wa, .int .i64 r.wb, .slice av r.path.length c, .int .i64 r.cost, .int .i64 (r.done : Int)] from fun av c => by rw [hrd.1, hrd.2.1, hrd.2.2.1, hrd.2.2.2.1, hpm])
      have hrow := hide hrow
      rw [← hpm] at hp64
      replace hpm := hide hpm
      clear hQ hinv hl hn s12 s5 hT hm hOv hkp hkq h64 hrd hev
      go_enter Tryz.func20, Tryz.ntmps20
      go_wp2_with fail
      refine (hR.out _ (by exact bel)).mono ?_
      rintro e w1 ⟨al, cl, rfl, hRA, hb1⟩
      have j0 := cu_below hb1 (p := ⟨w.heap.size, 0, none⟩) (v := .int .i64 0) (by simp [go_sem]) (by simp)
      have f0 := fu_below hb1 (p := ⟨w.heap.size, 0, none⟩) (by simp [go_sem]) (by simp)
      have j1 := cu_below hb1 (p := ⟨w.heap.size, 1, none⟩) (v := .int .i64 0) (by simp [go_sem]) (by simp)
      have f1 := fu_below hb1 (p := ⟨w.heap.size, 1, none⟩) (by simp [go_sem]) (by simp)
      have j2 := cu_below hb1 (p := ⟨w.heap.size, 2, none⟩) (v := .int .i64 0) (by simp [go_sem]) (by simp)
      have f2 := fu_below hb1 (p := ⟨w.heap.size, 2, none⟩) (by simp [go_sem]) (by simp)
      have j3 := cu_below hb1 (p := ⟨w.heap.size, 3, none⟩) (v := .slice none 0 0) (by simp [go_sem]) (by simp)
      have f3 := fu_below hb1 (p := ⟨w.heap.size, 3, none⟩) (by simp [go_sem]) (by simp)
      have j4 := cu_below hb1 (p := ⟨w.heap.size, 4, none⟩) (v := .int .i64 0) (by simp [go_sem]) (by simp)
      have f4 := fu_below hb1 (p := ⟨w.heap.size, 4, none⟩) (by simp [go_sem]) (by simp)
      have j5 := cu_below hb1 (p := ⟨w.heap.size, 5, none⟩) (v := .int .i64 0) (by simp [go_sem]) (by simp)
      have f5 := fu_below hb1 (p := ⟨w.heap.size, 5, none⟩) (by simp [go_sem]) (by simp)
      have y4 := cu_below hb1 (p := ⟨x, 4, none⟩) (v := .int .i64 rv.na) (by simp [go_sem, x4, zx]) (by simp; omega)
      have y5 := cu_below hb1 (p := ⟨x, 5, none⟩) (v := .int .i64 rv.nb) (by simp [go_sem, x5, zx]) (by simp; omega)
      have y6 := cu_below hb1 (p := ⟨x, 6, none⟩) (v := .slice rv.pa rv.pm rv.pc) (by simp [go_sem, x6, zx]) (by simp; omega)
      have y7 := cu_below hb1 (p := ⟨x, 7, none⟩) (v := .int .i64 rv.rc) (by simp [go_sem, x7, zx]) (by simp; omega)
      have y8 := cu_below hb1 (p := ⟨x, 8, none⟩) (v := .int .i64 rv.dn) (by simp [go_sem, x8, zx]) (by simp; omega)
      have zw : w.heap.size < w1.heap.size := cell_lt j0
      have y9 := cu_below hb1 (p := ⟨x, 9, none⟩) (v := .bool true) (by simp [go_sem, x9, zx]) (by simp; omega)
      have hb2 : Below w.heap.size w w1 := ((Below.refl _ _).alloc (Nat.le_refl _) _).trans (hb1.mono (by simp))
      have hrow1 := hide ((hrow.out.below hb2 (Nat.le_refl _)).mono hb2.size)
      have zx1 : x < w1.heap.size := by omega
      replace hb2 := hide hb2
      clear hRA hR hb1 hrow
      obtain ⟨b8, hb8⟩ : ∃ b8, b8 = w1.heap.size := ⟨_, rfl⟩
      obtain ⟨w8, hw8⟩ : ∃ w8, w8 = w1.alloc (.cells #[.int .i64 rv.na, .int .i64 rv.nb, .slice rv.pa rv.pm rv.pc, .int .i64 rv.rc, .int .i64 rv.dn] 60) := ⟨_, rfl⟩
      have hb18 : Below w1.heap.size w1 w8 := by rw [hw8]; exact (Below.refl _ _).alloc (Nat.le_refl _) _
      have g0 : w8.cell? ⟨b8, 0, none⟩ = some (.int .i64 rv.na) := by rw [hw8, hb8]; simp [go_sem]
      have g1 : w8.cell? ⟨b8, 1, none⟩ = some (.int .i64 rv.nb) := by rw [hw8, hb8]; simp [go_sem]
      have g2 : w8.cell? ⟨b8, 2, none⟩ = some (.slice rv.pa rv.pm rv.pc) := by rw [hw8, hb8]; simp [go_sem]
      have g3 : w8.cell? ⟨b8, 3, none⟩ = some (.int .i64 rv.rc) := by rw [hw8, hb8]; simp [go_sem]
      have g4 : w8.cell? ⟨b8, 4, none⟩ = some (.int .i64 rv.dn) := by rw [hw8, hb8]; simp [go_sem]
      have gf : w8.frozen? ⟨b8, 2, none⟩ = false := by rw [hw8, hb8]; simp [go_sem]
      have hrow8 := hide ((hrow1.out.below hb18 (Nat.le_refl _)).mono hb18.size)
      have hb28 := hide (hb2.out.trans (hb18.mono hb2.out.size))
      have j0 := cu_below hb18 j0 zw
      have f0 := fu_below hb18 f0 zw
      have j1 := cu_below hb18 j1 zw
      have f1 := fu_below hb18 f1 zw
      have j2 := cu_below hb18 j2 zw
      have f2 := fu_below hb18 f2 zw
      have j3 := cu_below hb18 j3 zw
      have f3 := fu_below hb18 f3 zw
      have j4 := cu_below hb18 j4 zw
      have f4 := fu_below hb18 f4 zw
      have j5 := cu_below hb18 j5 zw
      have f5 := fu_below hb18 f5 zw
      have zb8 : w.heap.size < b8 := by omega
      have zw8 : b8 < w8.heap.size := cell_lt g0
      go_upto_region 12 with fail
      simp only [← hw8]
      simp only [← hb8]
      replace hw8 := hide hw8
      replace hb8 := hide hb8
      clear hb18 hb2 hrow1 y4 y5 y6 y7 y8 y9
      go_upto_region 13 with (at_builtin; (refine wpList_all (enc := encI) (v := .slice none 0 0) (xs := []) (base := w8.heap.size) rfl (.const (.slice none 0 0)) (.tmp 66) 22 rfl _ 8 Tryz.underlying22 info_int rfl ?d1 lenI oneI 0 rfl rfl (Own.nil _ _) w8.heap.size rv.pa rv.pm rv.pc r.path ?d3 rfl hrow8.out ?d4 ?d5 ?d6 ?_); (case d1 => omega); (case d3 => exact hpm.out.symm); (case d4 => omega); (case d5 => unfold maxLen; omega); (case d6 => exact Nat.le_refl _); intro a4 c4 w9 own4 hb4 hg4; simp only [List.nil_append, Nat.zero_add] at own4 ⊢; have g0 := cu_below hb4 g0 zw8; have g1 := cu_below hb4 g1 zw8; have g2 := cu_below hb4 g2 zw8; have g3 := cu_below hb4 g3 zw8; have g4 := cu_below hb4 g4 zw8; have gf := fu_below hb4 gf zw8; replace own4 := hide own4; replace hb4 := hide hb4; clear hg4)
      have zww8 : w.heap.size < w8.heap.size := by omega
      have j0 := cu_below hb4.out j0 zww8
      have f0 := fu_below hb4.out f0 zww8
      have j1 := cu_below hb4.out j1 zww8
      have f1 := fu_below hb4.out f1 zww8
      have j2 := cu_below hb4.out j2 zww8
      have f2 := fu_below hb4.out f2 zww8
      have j3 := cu_below hb4.out j3 zww8
      have f3 := fu_below hb4.out f3 zww8
      have j4 := cu_below hb4.out j4 zww8
      have f4 := fu_below hb4.out f4 zww8
      have j5 := cu_below hb4.out j5 zww8
      have f5 := fu_below hb4.out f5 zww8
      have zw9 : w.heap.size < w9.heap.size := cell_lt j0
      have zb9 : b8 < w9.heap.size := cell_lt g0
      have hFin := hide (show ∀ w' : World, Keep (fun j => j = w.heap.size ∨ j = b8) w9 w' → PollAns (pollQ (some q)) w (.returned (.tuple #[.agg #[.int .i64 3, .int .i64 rv.na, .int .i64 rv.nb, .slice a4 rv.pm c4, .int .i64 rv.rc, .int .i64 rv.dn], .int .i64 0])) w' from fun w' kp => by
        rw [hpq.out, hval.out]
        have hb9 := hb28.out.trans (hb4.out.mono hb28.out.size)
        have hob := own4.out.block_lt
        obtain ⟨pa, pc, hev, hrow9, -, -⟩ := own4.out.row lenI
        simp only [Value.slice.injEq] at hev
        rw [← hev.1] at hrow9
        refine ⟨a4, r.path.length, c4, rfl, rfl, (row_keep hrow9 kp (fun b o e e2 => by have := hob b (by rw [e]; rfl); omega)).mono kp.size, ((Keep.new (S := fun j => w.heap.size ≤ j) hb9).trans (kp.mono (fun j _ e => by omega))).toBelow (fun _ h => h) (Nat.le_refl _)⟩)
      clear own4 hb4 hrow8 hb28
      go_wp2
      refine bodyPost_ret (v := .tuple #[.agg #[.int .i64 3, .int .i64 rv.na, .int .i64 rv.nb, .slice a4 rv.pm c4, .int .i64 rv.rc, .int .i64 rv.dn], .int .i64 0]) (by simp [results, Tryz.results20, go_sem, j0, j1, j2, j3, j4, j5, zw9]) rfl (hFin.out _ (by repeat (first | with_reducible exact Keep.refl _ _ | with_reducible assumption | with_reducible refine Keep.drewN ?_ _ | with_reducible refine Keep.drew ?_ | with_reducible refine Keep.alloc ?_ _ | (with_reducible refine Keep.setCell ?_ ?_ _; rotate_left; (first | exact .inl rfl | exact .inl (.inl rfl) | exact .inl (.inr rfl) | (right; simp; done) | (right; simp; omega))))))
end
theorem ppoll_any {σ : Sv} {svb : Nat} {P : Nat → Prop} {w : World} (hP : PSv σ svb P w) (id : Int) :
    Calls Tryz.prog 20 #[.pointer (some ⟨svb, 0, none⟩), .int .i64 id] w (PollAns (pollQ (σ.at id)) w) := by
  by_cases h : id < 0 ∨ 6 ≤ id
  · rw [at_out h]
    exact ppoll_out id h
  · obtain ⟨k, rfl⟩ := Int.eq_ofNat_of_zero_le (show 0 ≤ id by omega)
    have hk : k < 6 := by omega
    rw [at_in hk]
    obtain ⟨hok, hlt, ga, gc, xs, W, N, hX, hin⟩ := hP
    have cx := hX.cx k hk
    cases hq : σ.sl k with
    | none =>
      rw [hX.noneAt hk hq] at cx
      exact ppoll_none k hk cx
    | some q =>
      obtain ⟨x, hx, hQ⟩ := hX.someAt hk hq
      rw [hx] at cx
      exact ppoll_some k hk cx hQ (hok.q k q hk hq).k
end Go.Proofs.YtccailcjclbhlaaGreat
/-! serve's Frame: what it answers and leaves. No condition. -/
namespace Go.Proofs.YtccailcjclbhlaaGreat
open Go.RowKit
set_option linter.unusedSimpArgs false
set_option linter.unusedVariables false
section
variable {σ : Sv} {svb : Nat} {P : Nat → Prop} {w wr w' : World} {k : Nat}
theorem PLeft.stays (h : PLeft σ svb P w wr) (hb : Below wr.heap.size wr w') : PLeft σ svb P w w' := by
  refine ⟨⟨h.1.1, fun j hj => ?_, ?_⟩, h.2.trans (Keep.new hb)⟩
  · rcases hj with hj | hj
    · exact Nat.lt_of_lt_of_le (h.1.2.1 j (.inl hj)) hb.size
    · exact hj.2
  · obtain ⟨ga, gc, xs, W, N, hX, hin⟩ := h.1.2.2
    exact ⟨ga, gc, xs, W, N, hX.stays hb, fun i j q => (hin i j q).elim .inl (fun q => .inr ⟨q.1, Nat.lt_of_lt_of_le q.2 hb.size⟩)⟩
theorem PLeft.adv (h : PLeft σ svb P w wr) : PLeft σ.adv svb P w (wr.setCell ⟨svb, 9, none⟩ (.int .i64 (((σ.turn + 1) % 6 : Nat) : Int))) := by
  obtain ⟨⟨hok, hlt, ga, gc, xs, W, N, hX, hin⟩, hk⟩ := h
  have hs : grown P w wr svb := hin 6 svb (.inl hX.own)
  refine ⟨⟨⟨hok.g, by show (σ.turn + 1) % 6 < 6; omega, hok.q⟩, fun j hj => ?_, ga, gc, xs, W, N, hX.turned ((σ.turn + 1) % 6), fun i j q => ?_⟩, hk.setCell (p := ⟨svb, 9, none⟩) (hs.elim .inl (fun q => .inr q.1)) _⟩
  · rcases hj with hj | hj
    · simpa using hlt j (.inl hj)
    · simpa using hj.2
  · rcases hin i j q with q | q
    · exact .inl q
    · exact .inr ⟨q.1, by simpa using q.2⟩
/-- request k in use: what a step of its search leaves -/
theorem PLeft.use (h : PLeft σ svb P w wr) (hk : k < 6) {q : Sq} (hq : σ.sl k = some q) : ∃ x sb A C, wr.cell? ⟨svb, 3 + k, none⟩ = some (.pointer (some ⟨x, 0, none⟩)) ∧ wr.cell? ⟨x, 0, none⟩ = some (.pointer (some ⟨sb, 0, none⟩)) ∧ x ≠ svb ∧ AObj σ.cs.length q.t σ.es hZ q.ws q.s sb A C wr ∧ ∀ s' w', AObj σ.cs.length q.t σ.es hZ q.ws s' sb (grown A wr w') C w' → Keep A wr w' → PLeft { σ with sl := upz σ.sl k (some { q with s := s' }) } svb P w w' := by
  obtain ⟨⟨hok, hlt, ga, gc, xs, W, N, hX, hin⟩, hkp⟩ := h
  obtain ⟨x, hx, sb, cw, aw, rv, A, C, hQ⟩ := hX.someAt hk hq
  have cx := hX.cx k hk
  rw [hx] at cx
  have hxs : x ≠ svb := fun e => by have := hQ.wx; rw [e] at this; exact absurd (hX.lay.sep 6 k _ hX.own this) (by omega)
  refine ⟨x, sb, A, C, cx, hQ.x0, hxs, hQ.obj, fun s' w' hO kp => ?_⟩
  have hns : ¬ A svb := fun e => absurd (hX.lay.sep 6 k _ hX.own (hQ.aW _ e)) (by omega)
  have hnx := hQ.ax
  have zx : x < wr.heap.size := cell_lt hQ.x0
  have hQ2 : PQc σ.es σ.cs.length { q with s := s' } x sb cw aw rv (grown A wr w') C (fun j => j = x ∨ grown A wr w' j) (N k) w' :=
    ⟨kp.cu hQ.x0 hnx, kp.cu hQ.x1 hnx, kp.cu hQ.x2 hnx, kp.cu hQ.x3 hnx, kp.cu hQ.x4 hnx, kp.cu hQ.x5 hnx, kp.cu hQ.x6 hnx, kp.cu hQ.x7 hnx, kp.cu hQ.x8 hnx, kp.cu hQ.x9 hnx,
      fun o => (kp.frozen (p := ⟨x, o, none⟩) zx hnx).trans (hQ.fz o), hO, (row_keep hQ.wr kp (fun b o e e2 => hX.lay.ap k k b (hQ.aW b e2) (hQ.wN b o e))).mono kp.size, hQ.kp.keep kp (fun j e e2 => hX.lay.ap k k j (hQ.aW j e2) (hQ.pN j e)), .inl rfl, fun e => e.elim hnx (fun e => by omega), fun j e => .inr e, hQ.cN, hQ.wN, hQ.pN⟩
  have hslot := hX.slot hk kp (fun j e => .inr (hQ.aW j e)) (fun o _ v hv => kp.cu hv hns) (x := some x) (by rw [← hx]; exact kp.cu (hX.cx k hk) hns) (fun o => (kp.frozen (p := ⟨svb, o, none⟩) (show svb < _ from cell_lt hX.c0) hns).trans (hX.fz o)) (some { q with s := s' }) σ.es (W' := fun j => j = x ∨ grown A wr w' j) (N' := N k) (fun j e => ?_) (fun j e => .inr (.inl e)) (fun j e e2 => ?_) (.inr ⟨_, _, rfl, rfl, sb, cw, aw, rv, grown A wr w', C, hQ2⟩)
  · rw [← hx, upz_self xs k, show upz (fun _ => σ.es) k σ.es = (fun _ => σ.es) from upz_self (fun _ => σ.es) k] at hslot
    refine ⟨⟨⟨hok.g, hok.u, fun i q' hi hq' => ?_⟩, fun j hj => ?_, ga, gc, xs, _, _, hslot, fun i j e => ?_⟩, hkp.trans2 kp (fun j e => ?_)⟩
    · by_cases e : i = k
      · subst e
        rw [show ({ σ with sl := upz σ.sl i (some { q with s := s' }) } : Sv).sl = upz σ.sl i (some { q with s := s' }) from rfl, upz_same] at hq'
        cases hq'
        have h0 := hok.q i q hi hq
        exact ⟨h0.f, h0.t, h0.w, h0.k⟩
      · rw [show ({ σ with sl := upz σ.sl k (some { q with s := s' }) } : Sv).sl = upz σ.sl k (some { q with s := s' }) from rfl, upz_other _ _ e] at hq'
        exact hok.q i q' hi hq'
    · rcases hj with hj | hj
      · exact Nat.lt_of_lt_of_le (hlt j (.inl hj)) kp.size
      · exact hj.2
    · have up : ∀ {j}, grown P w wr j → grown P w w' j := fun h => h.elim .inl (fun h => .inr ⟨h.1, Nat.lt_of_lt_of_le h.2 kp.size⟩)
      by_cases q2 : i = k
      · subst q2
        rw [upz_same, upz_same] at e
        rcases e with (e | e | e) | e
        · exact up (hin i j (.inl (by rw [e]; exact hQ.wx)))
        · exact up (hin i j (.inl (hQ.aW j e)))
        · exact .inr ⟨by have := hkp.size; omega, e.2⟩
        · exact up (hin i j (.inr e))
      · rw [upz_other _ _ q2, upz_other _ _ q2] at e
        exact up (hin i j e)
    · rcases hin k j (.inl (hQ.aW j e)) with e | e
      · exact .inl e
      · exact .inr e.1
  · rcases e with e | e | e
    · exact .inl (by rw [e]; exact hQ.wx)
    · exact .inl (hQ.aW j e)
    · exact .inr e
  · rcases e with e | e | e
    · subst e; exact hX.lay.ap k k j hQ.wx e2
    · exact hX.lay.ap k k j (hQ.aW j e) e2
    · have := hX.lay.lt k j (.inr e2); omega
theorem PLeft.cells (h : PLeft σ svb P w wr) : σ.turn < 6 ∧ wr.cell? ⟨svb, 9, none⟩ = some (.int .i64 (σ.turn : Int)) ∧ wr.frozen? ⟨svb, 9, none⟩ = false ∧ (σ.sl σ.turn = none → wr.cell? ⟨svb, 3 + σ.turn, none⟩ = some (.pointer none)) := by
  obtain ⟨⟨hok, hlt, ga, gc, xs, W, N, hX, hin⟩, hkp⟩ := h
  refine ⟨hok.u, hX.c9, hX.fz 9, fun e => ?_⟩
  have := hX.cx σ.turn hok.u
  rw [hX.noneAt hok.u e] at this
  exact this
end
theorem asteps_more1 {ws : List P2} {es : List Ed} {h : Nat → Int} {n tg j : Nat} {s s' : AS} (hl : s.told.length < ws.length) (hs : ASteps ws es h n tg 1 s j s') : j = 1 ∧ AStep ws es h n tg s s' := by
  cases hs with
  | over _ _ ho => omega
  | step k j s s1 s2 hlt h1 h2 =>
    cases h2 with
    | zero _ => exact ⟨rfl, h1⟩
    | over _ _ ho => exact ⟨rfl, h1⟩
set_option maxRecDepth 100000 in
set_option maxHeartbeats 1000000 in
theorem pframe_bad (svb : Nat) (b : Int) (w : World) (h : frameErr b ≠ 0) :
    Calls Tryz.prog 18 #[.pointer (some ⟨svb, 0, none⟩), .int .i64 b] w fun e w' => e = .returned (.tuple #[.int .i64 0, .int .i64 1]) ∧ Below w.heap.size w w' := by
  have hb : b < 0 ∨ b > 10000 := Classical.byContradiction fun hc => h (by unfold frameErr; rw [if_neg hc])
  by_cases q1 : b < 0
  · have q2 : (b < 0) = True := by simp [q1]
    clear h hb q1
    go_enter Tryz.func18, Tryz.ntmps18
    go_wp2
    refine bodyPost_ret (v := .tuple #[.int .i64 0, .int .i64 1]) (by simp [results, Tryz.results18, go_sem]) rfl ⟨rfl, bel⟩
  · have q2 : (b < 0) = False := by simp [q1]
    have q3 : (10000 < b) = True := by simp; omega
    clear h hb q1
    go_enter Tryz.func18, Tryz.ntmps18
    go_wp2
    refine bodyPost_ret (v := .tuple #[.int .i64 0, .int .i64 1]) (by simp [results, Tryz.results18, go_sem]) rfl ⟨rfl, bel⟩
set_option maxRecDepth 100000 in
set_option maxHeartbeats 8000000 in
theorem pframe_ok {σ : Sv} {svb : Nat} {P : Nat → Prop} {w : World} (hP : PSv σ svb P w) (B : Nat) (hB : B ≤ 10000) :
    Calls Tryz.prog 18 #[.pointer (some ⟨svb, 0, none⟩), .int .i64 (B : Int)] w fun e w' => ∃ (k : Nat) (σ' : Sv), e = .returned (.tuple #[.int .i64 (k : Int), .int .i64 0]) ∧ Fr σ B σ' k ∧ PLeft σ' svb P w w' := by
  have h0 := hide (PLeft.same hP (Below.refl _ _))
  have hu := hide hP.1.u
  have q2 : ((B : Int) < 0) = False := by simp
  have q3 : (10000 < (B : Int)) = False := by simp; omega
  clear hP
  go_enter Tryz.func18, Tryz.ntmps18
  go_wp2_with fail
  go_loopw [6, 7] (fun i6 i7 wr => ∃ (used idle b : Nat) (σ0 σ1 : Sv), i6 = .int .i64 (used : Int) ∧ i7 = .int .i64 (idle : Int) ∧ used + b = B ∧ idle ≤ 6 ∧ Hid (PLeft σ1 svb P w wr) ∧ Hid (Idle σ0 idle b σ1) ∧ Hid (∀ σ' k, Fr σ0 b σ' k → Fr σ B σ' (used + k))) (fun i6 i7 _ => 7 * (B - (intOf i6).toNat) + (6 - (intOf i7).toNat))
  case atStart => exact ⟨0, 0, B, σ, σ, rfl, rfl, by omega, by omega, h0, hide (Idle.zero hu.out B), hide (fun σ' k h => by rw [Nat.zero_add]; exact h)⟩
  case round =>
    obtain ⟨used, idle, b, σ0, σ1, rfl, rfl, hub, hi6, hL, hI, hF⟩ := hrel
    by_cases hb : b = 0
    · have q4 : ((used : Int) < (B : Int)) = False := by simp; omega
      have hfin := hide (show Fr σ B σ1 used from by
        obtain ⟨e1, _, _, _, e2⟩ := hI.out
        subst hb
        have h0 : idle = 0 := by omega
        subst h0
        rw [e1]
        exact hF.out _ 0 (Fr.stop σ0))
      clear hub hb
      go_wp2
      refine bodyPost_ret (v := .tuple #[.int .i64 (used : Int), .int .i64 0]) (by simp [results, Tryz.results18, go_sem]) rfl ⟨used, σ1, rfl, hfin.out, hL.out⟩
    · have q4 : ((used : Int) < (B : Int)) = True := by simp; omega
      by_cases hi : idle = 6
      · have q5 : ((idle : Int) < 6) = False := by simp; omega
        have hfin := hide (show Fr σ B σ1 used from by
          have h6 := hI.out
          rw [hi] at h6
          obtain ⟨e1, e2⟩ := h6.six
          rw [e1]
          exact hF.out _ 0 (Fr.over σ0 b e2))
        clear hub hb hi
        go_wp2
        refine bodyPost_ret (v := .tuple #[.int .i64 (used : Int), .int .i64 0]) (by simp [results, Tryz.results18, go_sem]) rfl ⟨used, σ1, rfl, hfin.out, hL.out⟩
      · have q5 : ((idle : Int) < 6) = True := by simp; omega
        obtain ⟨hk, c9, f9, hnone⟩ := hL.out.cells
        obtain ⟨k, hkk⟩ : ∃ k, k = σ1.turn := ⟨_, rfl⟩
        rw [← hkk] at hk c9 hnone
        have zs : svb < wr.heap.size := cell_lt c9
        have hw1 : IntKind.i64.wrap ((k : Int) + 1) = (k : Int) + 1 := IntWalk.i64_in _ (by omega)
        have hw2 : ((k : Int) + 1).tmod 6 = ((k : Int) + 1) % 6 := Int.tmod_eq_emod_of_nonneg (by omega)
        have hcast : (((k + 1) % 6 : Nat) : Int) = ((k : Int) + 1) % 6 := by omega
        have i1 : (0 : Int) ≤ (k : Int) ∧ (k : Int) < 6 := by omega
        have hL2 := hide (fun (wx : World) (h : PLeft σ1 svb P w wx) => show PLeft σ1.adv svb P w (wx.setCell ⟨svb, 9, none⟩ (.int .i64 (((k : Int) + 1) % 6))) from by rw [← hcast, hkk]; exact h.adv)
        replace hcast := hide hcast
        cases hq : σ1.sl k with
        | none =>
          have cx := hnone hq
          have hI2 := hide (hI.out.next (by omega) (by omega) (by rw [← hkk, hq]; exact fun h => h))
          have hL3 := hide (fun (n : Nat) => hL2.out (wr.drewN n) (hL.out.stays (below_drewN (Below.refl _ _) n)))
          replace hkk := hide hkk
          replace hq := hide hq
          clear hnone hb hL hI hL2
          go_wp2_with fail
          go_quiet (fail)
          go_wp2_with fail
          go_roundw
          case rel => exact ⟨used, idle + 1, b, σ0, σ1.adv, rfl, by go_num, by omega, by omega, hide (hL3.out _), hI2, hF⟩
          case measure => simp [intOf]; omega
        | some q =>
          obtain ⟨x, sb0, A0, C0, cx, cx0, hxs, -, -⟩ := hL.out.use hk hq
          have zx : x < wr.heap.size := cell_lt cx0
          have hL3 := hide (fun (n : Nat) => hL2.out (wr.drewN n) (hL.out.stays (below_drewN (Below.refl _ _) n)))
          have hI3 := hide (fun (hn : ¬ liveQ (some q)) => hI.out.next (by omega) (by omega) (by rw [← hkk, hq]; exact hn))
          have hF3 := hide (fun (hl : liveQ (some q)) => show ∀ b', b = b' + 1 → ∀ σ' k', Fr σ1.step.adv b' σ' k' → Fr σ B σ' (used + 1 + k') from fun b' e σ' k' h => by
            have h1 : Fr σ1 b σ' (k' + 1) := by rw [e]; exact Fr.step σ1 b' σ' k' (by rw [← hkk, hq]; exact hl) (by rw [← hkk]; exact hk) h
            have h2 := hF.out σ' (k' + 1) (hI.out.fr (hI.out.liveHere (by rw [← hkk]; exact hk) (by rw [← hkk, hq]; exact hl)) h1)
            rwa [Nat.add_assoc, Nat.add_comm 1 k'])
          have hst := hide (show ∀ s', σ1.adv.cs.length = σ1.cs.length ∧ (s' = sNext σ1.es σ1.cs.length q.t q.ws q.s → { σ1.adv with sl := upz σ1.adv.sl k (some { q with s := s' }) } = σ1.step.adv) from fun s' => ⟨rfl, fun e => by
            subst e
            unfold Sv.step
            rw [← hkk, hq]
            unfold Sv.adv
            rw [← hkk]
            rfl⟩)
          have hqa : σ1.adv.sl k = some q := hq
          replace hkk := hide hkk
          replace hq := hide hq
          clear hnone hI hL2
          go_wp2_with fail
          go_quiet (fail)
          obtain ⟨w1, hwx⟩ : ∃ w1, w1 = (wr.drewN nq).setCell ⟨svb, 9, none⟩ (.int .i64 (((k : Int) + 1) % 6)) := ⟨_, rfl⟩
          have hL4 := hide (show PLeft σ1.adv svb P w w1 from by rw [hwx]; exact hL3.out nq)
          have hsx : svb ≠ x := fun e => hxs e.symm
          have y0 : w1.cell? ⟨x, 0, none⟩ = some (.pointer (some ⟨sb0, 0, none⟩)) := by rw [hwx]; exact cu_set (cu_drewN cx0) hsx
          obtain ⟨x1, sb1, A1, C1, g1, g2, -, hO1, -⟩ := hL4.out.use hk hqa
          have hc1 : w1.cell? ⟨svb, 3 + k, none⟩ = some (.pointer (some ⟨x, 0, none⟩)) := by rw [hwx]; exact cu_set_off (cu_drewN cx) (by omega)
          have e1 : x1 = x := by
            rw [g1] at hc1
            simpa using hc1
          subst e1
          have e2 : sb1 = sb0 := by rw [g2] at y0; simpa using y0
          subst e2
          have hc1 := hide hc1
          obtain ⟨hinv, htl, h8, h1m, hn⟩ := hO1.inv
          obtain ⟨ar, aw, rc, wc, s5, s12⟩ := hO1.cells
          obtain ⟨T, hT⟩ : ∃ T, T = q.s.told.length := ⟨_, rfl⟩
          obtain ⟨m, hm⟩ : ∃ m, m = q.ws.length := ⟨_, rfl⟩
          rw [← hm] at s5
          rw [← hT] at s12
          have hOv := hide (aover_any sb1 T rc m wc ar aw w1 s12 s5)
          clear g1 g2 hO1 s5 s12
          go_wp2_with fail
          simp only [← hwx]
          replace hwx := hide hwx
          refine hOv.out.mono ?_
          rintro e w2 ⟨rfl, k2, rfl⟩
          have y2 := cu_drewN (n := k2) y0
          have zx2 : x1 < (w1.drewN k2).heap.size := cell_lt y2
          have hL5 := hide (hL4.out.stays (below_drewN (Below.refl _ _) k2))
          clear cx cx0 hL3 hOv hL4
          by_cases hTm : T = m
          · have q7 : ((T : Int) == (m : Int)) = true := by simp [hTm]
            have hI4 := hide (hI3.out (by unfold liveQ; omega))
            replace hT := hide hT
            replace hm := hide hm
            clear hTm hF3 hst hI3 y0
            go_wp2_with fail
            go_roundw
            case rel => exact ⟨used, idle + 1, b, σ0, σ1.adv, rfl, by go_num, by omega, by omega, hL5, hI4, hF⟩
            case measure => simp [intOf]; omega
          · have q7 : ((T : Int) == (m : Int)) = false := by simp; omega
            have hlive : q.s.told.length < q.ws.length := by omega
            have hF4 := hide (hF3.out hlive (b - 1) (by omega))
            obtain ⟨w2, hw2'⟩ : ∃ w2, w2 = w1.drewN k2 := ⟨_, rfl⟩
            rw [← hw2'] at y2 zx2 hL5
            obtain ⟨x3, sb3, A3, C3, g1, g2, -, hO3, hStep⟩ := hL5.out.use hk hqa
            have e3 : x3 = x1 := by
              have h := cu_drewN (n := k2) hc1.out
              rw [← hw2', g1] at h
              simpa using h
            subst e3
            have e4 : sb3 = sb1 := by rw [g2] at y2; simpa using y2
            subst e4
            have htg : q.t < σ1.adv.cs.length := (hL5.out.1.1.q k q hk hqa).t
            have hSt := hide (aobj_step htg 1 (by omega) hO3)
            replace hT := hide hT
            replace hm := hide hm
            simp only [← hw2']
            replace hw2' := hide hw2'
            have hw3 : IntKind.i64.wrap ((used : Int) + 1) = ((used + 1 : Nat) : Int) := by rw [IntWalk.i64_in _ (by omega)]; omega
            clear hTm hI3 y0 g1 hO3
            go_wp2_with fail
            refine hSt.out.mono ?_
            rintro e w3 ⟨k', s', rfl, hAs, hO4, hkA⟩
            obtain ⟨rfl, hAst⟩ := asteps_more1 hlive hAs
            have hPL := hStep s' w3 hO4 hkA
            rw [(hst.out s').2 (sNext_is hAst)] at hPL
            have hPL := hide hPL
            clear hStep hO4 hkA hAs hAst hL5 hSt
            go_wp2_with fail
            go_roundw
            case rel => exact ⟨used + 1, 0, b - 1, σ1.step.adv, σ1.step.adv, by go_num, rfl, by omega, by omega, hPL, hide (Idle.zero hPL.out.cells.1 _), hF4⟩
            case measure => simp [intOf]; omega
end Go.Proofs.YtccailcjclbhlaaGreat
