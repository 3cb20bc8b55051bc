/-
  A part of the proof of ServePlays: TsP SvE SvF SvG AllP WayP
-/
import Derived.Test.YtccailcjclbhlaaTopServiceA14
import Derived.Test.YtccailcjclbhlaaTopServiceA1
import Derived.Test.YtccailcjclbhlaaTopServiceA6
/-! A service in the end: after 10000 steps each search has come to its end, as one by itself. No program here. -/
namespace Go.Proofs.Ytccailcjclbhlaa
set_option linter.unusedSimpArgs false
set_option linter.unusedVariables false
/-- each request's search is on the way that a search by itself goes -/
def Rn (σ : Sv) : Prop := ∀ i q, i < 6 → σ.sl i = some q → ∃ K, ASteps q.ws σ.es hZ σ.cs.length q.t K (sBegin σ.es σ.cs.length q.f q.t q.ws) K q.s
theorem asteps_snoc' {ws : List P2} {es : List Ed} {h : Nat → Int} {n tg K : Nat} {a b : AS} {j : Nat} (h1 : ASteps ws es h n tg K a j b) : j = K → ∀ c, b.told.length < ws.length → AStep ws es h n tg b c → ASteps ws es h n tg (K + 1) a (K + 1) c := by
  induction h1 with
  | zero s => intro _ c hl hc; exact .step 0 0 s c c hl hc (.zero c)
  | over k s ho =>
    intro e c hl hc
    omega
  | step k j s s1 s2 hlt h1 h2 ih =>
    intro e c hl hc
    have e2 : j = k := by omega
    exact .step (k + 1) (k + 1) s s1 c hlt h1 (ih e2 c hl hc)
theorem Rn.ask {σ σ' : Sv} {f t n e : Int} {ws : List P2} (h : Rn σ) (hA : AskIs σ f t ws n e σ') : Rn σ' := by
  rcases hA with ⟨-, -, -, rfl⟩ | ⟨-, -, -, -, rfl⟩ | ⟨-, k, -, -, -, rfl⟩
  · exact h
  · exact h
  · intro i q hi hq
    by_cases e : i = k
    · subst e
      rw [show (σ.put i f.toNat t.toNat ws).sl = upz σ.sl i (some (newQ σ.es σ.cs.length f.toNat t.toNat ws)) from rfl, upz_same] at hq
      cases hq
      exact ⟨0, .zero _⟩
    · rw [show (σ.put k f.toNat t.toNat ws).sl = upz σ.sl k (some (newQ σ.es σ.cs.length f.toNat t.toNat ws)) from rfl, upz_other _ _ e] at hq
      exact h i q hi hq
theorem Rn.edit {σ σ' : Sv} {x g e : Int} (h : Rn σ) (hA : EditIs σ x g e σ') : Rn σ' := by
  rcases hA with ⟨-, -, rfl⟩ | ⟨-, -, ⟨-, rfl⟩ | ⟨-, rfl⟩⟩
  · exact h
  · exact h
  · intro i q hi hq
    have e1 : (σ.edK x.toNat g 6).sl i = (σ.sl i).map (again (gridNet σ.W σ.H (σ.cs.set x.toNat g) σ.cs.length) σ.cs.length) := by
      show (if i < 6 then _ else _) = _
      rw [if_pos hi]
    rw [e1] at hq
    cases hs : σ.sl i with
    | none => rw [hs] at hq; cases hq
    | some q0 =>
      rw [hs] at hq
      cases hq
      refine ⟨0, ?_⟩
      have e2 : (σ.edK x.toNat g 6).cs.length = σ.cs.length := List.length_set
      have e3 : (σ.edK x.toNat g 6).es = gridNet σ.W σ.H (σ.cs.set x.toNat g) σ.cs.length := by
        show gridNet σ.W σ.H (σ.cs.set x.toNat g) (σ.cs.set x.toNat g).length = _
        rw [List.length_set]
      rw [e2, e3]
      exact .zero _
theorem Rn.frame {σ σ' : Sv} {b k : Nat} (hF : Fr σ b σ' k) (h : Rn σ) : Rn σ' := by
  induction hF with
  | stop σ => exact h
  | over σ b ho => exact h
  | idle σ b σ' k hl h0 hn hr ih => exact ih h
  | step σ b σ' k hl ht hs hr ih =>
    refine ih (fun i q hi hq => ?_)
    by_cases e : i = σ.turn
    · subst e
      rw [show σ.step.adv.sl = upz σ.sl σ.turn ((σ.sl σ.turn).map (stepQ σ.es σ.cs.length)) from rfl, upz_same] at hq
      cases hs0 : σ.sl σ.turn with
      | none => rw [hs0] at hq; cases hq
      | some q0 =>
        rw [hs0] at hq hl
        cases hq
        obtain ⟨K, hK⟩ := h σ.turn q0 hi hs0
        exact ⟨K + 1, asteps_snoc' hK rfl _ hl (hs q0 hs0)⟩
    · rw [show σ.step.adv.sl = upz σ.sl σ.turn ((σ.sl σ.turn).map (stepQ σ.es σ.cs.length)) from rfl, upz_other _ _ e] at hq
      exact h i q hi hq
/-- the requests are those of l, in order -/
def Cn (σ : Sv) (l : List P2) (ws : List P2) : Prop := l.length ≤ 6 ∧ (∀ i (h : i < l.length), ∃ q, σ.sl i = some q ∧ (q.f : Int) = l[i].a ∧ (q.t : Int) = l[i].b ∧ q.ws = ws) ∧ ∀ i, l.length ≤ i → i < 6 → σ.sl i = none
theorem cn_zero {W H : Int} {cs : List Int} {ws : List P2} : Cn (sv0 W H cs) [] ws := ⟨by simp, fun i h => absurd h (by simp), fun i _ _ => rfl⟩
theorem Cn.ask {σ σ' : Sv} {f t n e : Int} {l ws : List P2} (h : Cn σ l ws) (hA : AskIs σ f t ws n e σ') : (e ≠ 0 ∧ Cn σ' l ws) ∨ (e = 0 ∧ n = (l.length : Int) ∧ Cn σ' (l ++ [⟨f, t⟩]) ws) := by
  rcases hA with ⟨h1, -, rfl, rfl⟩ | ⟨-, -, -, rfl, rfl⟩ | ⟨h1, k, hk, rfl, rfl, rfl⟩
  · exact .inl ⟨h1, h⟩
  · exact .inl ⟨by omega, h⟩
  · right
    obtain ⟨f', t', rfl, rfl, -⟩ := ask_ok h1
    obtain ⟨h0, h2, h3⟩ := h
    have hkl : k = l.length := by
      rcases Nat.lt_trichotomy k l.length with q | q | q
      · obtain ⟨x, hx, -⟩ := h2 k q
        rw [hk.2.1] at hx; cases hx
      · exact q
      · exact absurd (h3 l.length (Nat.le_refl _) (by have := hk.1; omega)) (hk.2.2 l.length q)
    subst hkl
    have hl := hk.1
    have hsl : (σ.put l.length (f' : Int).toNat (t' : Int).toNat ws).sl = upz σ.sl l.length (some (newQ σ.es σ.cs.length (f' : Int).toNat (t' : Int).toNat ws)) := rfl
    refine ⟨rfl, rfl, by simp; omega, fun i hi => ?_, fun i hi h6 => ?_⟩
    · by_cases e : i = l.length
      · subst e
        refine ⟨_, by rw [hsl, upz_same], ?_, ?_, rfl⟩
        · simp [newQ]
        · simp [newQ]
      · have hi2 : i < l.length := by simp at hi; omega
        obtain ⟨q, g1, g2, g3, g4⟩ := h2 i hi2
        refine ⟨q, by rw [hsl, upz_other _ _ e]; exact g1, ?_, ?_, g4⟩
        · rw [List.getElem_append_left hi2]; exact g2
        · rw [List.getElem_append_left hi2]; exact g3
    · simp at hi
      rw [hsl, upz_other _ _ (by omega)]
      exact h3 i (by omega) h6
/-- the same requests, wherever their searches are -/
def SameQ (σ σ' : Sv) : Prop := ∀ i, i < 6 → (σ.sl i = none → σ'.sl i = none) ∧ ∀ q, σ.sl i = some q → ∃ q', σ'.sl i = some q' ∧ q'.f = q.f ∧ q'.t = q.t ∧ q'.ws = q.ws
theorem SameQ.refl (σ : Sv) : SameQ σ σ := fun i _ => ⟨fun h => h, fun q h => ⟨q, h, rfl, rfl, rfl⟩⟩
theorem SameQ.trans {a b c : Sv} (h : SameQ a b) (k : SameQ b c) : SameQ a c := fun i hi => ⟨fun e => (k i hi).1 ((h i hi).1 e), fun q e => by
  obtain ⟨q1, g1, g2, g3, g4⟩ := (h i hi).2 q e
  obtain ⟨q2, k1, k2, k3, k4⟩ := (k i hi).2 q1 g1
  exact ⟨q2, k1, by rw [k2, g2], by rw [k3, g3], by rw [k4, g4]⟩⟩
theorem Cn.same {σ σ' : Sv} {l ws : List P2} (h : Cn σ l ws) (hs : SameQ σ σ') : Cn σ' l ws := by
  refine ⟨h.1, fun i hi => ?_, fun i hi h6 => (hs i h6).1 (h.2.2 i hi h6)⟩
  obtain ⟨q, g1, g2, g3, g4⟩ := h.2.1 i hi
  obtain ⟨q', k1, k2, k3, k4⟩ := (hs i (by have := h.1; omega)).2 q g1
  exact ⟨q', k1, by rw [k2]; exact g2, by rw [k3]; exact g3, by rw [k4]; exact g4⟩
theorem same_edit {σ σ' : Sv} {x g e : Int} (hA : EditIs σ x g e σ') : SameQ σ σ' := by
  rcases hA with ⟨-, -, rfl⟩ | ⟨-, -, ⟨-, rfl⟩ | ⟨-, rfl⟩⟩
  · exact SameQ.refl _
  · exact SameQ.refl _
  · intro i hi
    have e1 : (σ.edK x.toNat g 6).sl i = (σ.sl i).map (again (gridNet σ.W σ.H (σ.cs.set x.toNat g) σ.cs.length) σ.cs.length) := by
      show (if i < 6 then _ else _) = _
      rw [if_pos hi]
    rw [e1]
    exact ⟨fun h => by rw [h]; rfl, fun q h => ⟨again (gridNet σ.W σ.H (σ.cs.set x.toNat g) σ.cs.length) σ.cs.length q, by rw [h]; rfl, rfl, rfl, rfl⟩⟩
theorem same_frame {σ σ' : Sv} {b k : Nat} (hF : Fr σ b σ' k) : SameQ σ σ' := by
  induction hF with
  | stop σ => exact SameQ.refl _
  | over σ b ho => exact SameQ.refl _
  | idle σ b σ' k hl h0 hn hr ih => exact SameQ.trans (b := σ.adv) (SameQ.refl σ) ih
  | step σ b σ' k hl ht hs hr ih =>
    refine SameQ.trans (b := σ.step.adv) (fun i hi => ?_) ih
    rw [show σ.step.adv.sl = upz σ.sl σ.turn ((σ.sl σ.turn).map (stepQ σ.es σ.cs.length)) from rfl]
    by_cases e : i = σ.turn
    · subst e
      rw [upz_same]
      exact ⟨fun h => by rw [h]; rfl, fun q h => ⟨stepQ σ.es σ.cs.length q, by rw [h]; rfl, rfl, rfl, rfl⟩⟩
    · rw [upz_other _ _ e]
      exact ⟨fun h => h, fun q h => ⟨q, h, rfl, rfl, rfl⟩⟩
theorem same_frameIs {σ σ' : Sv} {b n e : Int} (hF : FrameIs σ b n e σ') : SameQ σ σ' := by
  rcases hF with ⟨-, -, -, rfl⟩ | ⟨-, -, k, -, hF⟩
  · exact SameQ.refl _
  · exact same_frame hF
theorem Rn.frameIs {σ σ' : Sv} {b n e : Int} (h : Rn σ) (hF : FrameIs σ b n e σ') : Rn σ' := by
  rcases hF with ⟨-, -, -, rfl⟩ | ⟨-, -, k, -, hF⟩
  · exact h
  · exact Rn.frame hF h
def doneQ : Option Sq → Nat | none => 0 | some q => q.s.done
def dsum (σ : Sv) : Nat := doneQ (σ.sl 0) + doneQ (σ.sl 1) + doneQ (σ.sl 2) + doneQ (σ.sl 3) + doneQ (σ.sl 4) + doneQ (σ.sl 5)
theorem dsum_upz {σ : Sv} {i : Nat} (hi : i < 6) {x : Option Sq} (h : doneQ x = doneQ (σ.sl i) + 1) {τ : Sv} (ht : τ.sl = upz σ.sl i x) : dsum τ = dsum σ + 1 := by
  unfold dsum
  rw [ht]
  have hc : i = 0 ∨ i = 1 ∨ i = 2 ∨ i = 3 ∨ i = 4 ∨ i = 5 := by omega
  rcases hc with rfl | rfl | rfl | rfl | rfl | rfl <;> simp [upz, h] <;> omega
theorem fr_done {σ σ' : Sv} {b k : Nat} (hF : Fr σ b σ' k) : dsum σ' = dsum σ + k ∧ (k = b ∨ ¬ σ'.live) := by
  induction hF with
  | stop σ => exact ⟨rfl, .inl rfl⟩
  | over σ b ho => exact ⟨rfl, .inr ho⟩
  | idle σ b σ' k hl h0 hn hr ih => exact ih
  | step σ b σ' k hl ht hs hr ih =>
    have h1 : dsum σ.step.adv = dsum σ + 1 := by
      refine dsum_upz ht (x := (σ.sl σ.turn).map (stepQ σ.es σ.cs.length)) ?_ rfl
      cases hq : σ.sl σ.turn with
      | none => rw [hq] at hl; exact hl.elim
      | some q => exact astep_done (hs q hq)
    refine ⟨by rw [ih.1, h1]; omega, ?_⟩
    rcases ih.2 with h | h
    · left; omega
    · exact .inr h
theorem frame_end {σ σ' : Sv} {n e : Int} (hF : FrameIs σ 10000 n e σ') (hd : ∀ i q, i < 6 → σ'.sl i = some q → q.s.done ≤ 600) : ∀ i q, i < 6 → σ'.sl i = some q → q.ws.length ≤ q.s.told.length := by
  rcases hF with ⟨h, -⟩ | ⟨-, -, k, -, hF⟩
  · exact absurd rfl h
  · have h1 := fr_done hF
    have hq : ∀ i, i < 6 → doneQ (σ'.sl i) ≤ 600 := fun i hi => by
      cases h : σ'.sl i with
      | none => exact Nat.zero_le _
      | some q => exact hd i q hi h
    have hs : dsum σ' ≤ 3600 := by
      have a0 := hq 0 (by omega)
      have a1 := hq 1 (by omega)
      have a2 := hq 2 (by omega)
      have a3 := hq 3 (by omega)
      have a4 := hq 4 (by omega)
      have a5 := hq 5 (by omega)
      unfold dsum
      omega
    have hnl : ¬ σ'.live := by
      rcases h1.2 with h | h
      · have e1 : (10000 : Int).toNat = 10000 := rfl
        rw [e1] at h
        omega
      · exact h
    intro i q hi hqi
    refine Nat.le_of_not_lt (fun hlt => hnl ⟨i, hi, ?_⟩)
    rw [hqi]
    exact hlt
/-- what a request that is over says, and a search by itself -/
theorem over_says {σ : Sv} (hR : Rn σ) {i : Nat} (hi : i < 6) {q : Sq} (hq : σ.sl i = some q) (ho : q.ws.length ≤ q.s.told.length) {s0 s' : AS} {K : Nat} (h0 : ASettle q.ws σ.es hZ σ.cs.length q.t (aStart hZ q.f) s0) (hs : ASteps q.ws σ.es hZ σ.cs.length q.t K s0 K s') (hl : s'.told.length = q.ws.length) : q.s = s' := by
  obtain ⟨L, hL⟩ := hR i q hi hq
  rw [← sBegin_is h0] at hL
  exact (asteps_end hL ho hs (by omega)).2
theorem over_poll {q : Sq} {r : RD} (hl : q.s.told.length = q.ws.length) (hr : q.s.told.getLast? = some r) : pollQ (some q) = (4, r, 0) := by
  unfold pollQ
  simp only [hr, hl, if_true]
end Go.Proofs.Ytccailcjclbhlaa
/-! serve's Poll: what it answers. No condition. -/
namespace Go.Proofs.Ytccailcjclbhlaa
open Go.RowKit
set_option linter.unusedSimpArgs false
set_option linter.unusedVariables false
/-- an answer: status, round, error -/
def PollAns (a : Int × RD × Int) (w : World) (e : Ending) (w' : World) : Prop := ∃ pa pm pc, e = .returned (.tuple #[.agg #[.int .i64 a.1, .int .i64 a.2.1.wa, .int .i64 a.2.1.wb, .slice pa pm pc, .int .i64 a.2.1.cost, .int .i64 (a.2.1.done : Int)], .int .i64 a.2.2]) ∧ a.2.1.path.length = pm ∧ Row encI 1 w' w'.heap.size pa a.2.1.path ∧ Below w.heap.size w w'
theorem PollAns.none (st er : Int) (w w' : World) (hb : Below w.heap.size w w') : PollAns (st, rd0, er) w (.returned (.tuple #[.agg #[.int .i64 st, .int .i64 0, .int .i64 0, .slice none 0 0, .int .i64 0, .int .i64 0], .int .i64 er])) w' := ⟨_, _, _, rfl, rfl, Row.nil _ _ _ _ _, hb⟩
theorem below_k {w w1 w' : World} (hb : Below w.heap.size w w1) (kp : Keep (fun j => j = w.heap.size) w1 w') : Below w.heap.size w w' := ((Keep.new (S := fun j => w.heap.size ≤ j) hb).trans (kp.mono (fun j _ e => Nat.le_of_eq e.symm))).toBelow (fun _ h => h) (Nat.le_refl _)
section
variable {σ : Sv} {svb : Nat} {P : Nat → Prop} {w : World}
theorem ppoll_out (id : Int) (h : id < 0 ∨ 6 ≤ id) :
    Calls Try.prog 13 #[.pointer (some ⟨svb, 0, none⟩), .int .i64 id] w (PollAns (0, rd0, 5) w) := by
  have hF := hide (fun (w' : World) => PollAns.none 0 5 w w')
  by_cases q1 : id < 0
  · have q2 : (id < 0) = True := by simp [q1]
    clear h q1
    go_enter Try.func13, Try.ntmps13
    go_wp2
    refine bodyPost_ret (v := .tuple #[.agg #[.int .i64 0, .int .i64 0, .int .i64 0, .slice none 0 0, .int .i64 0, .int .i64 0], .int .i64 5]) (by simp [results, Try.results13, go_sem]) rfl (hF.out _ (by exact bel))
  · have q2 : (id < 0) = False := by simp [q1]
    have q4 : (6 ≤ id) = True := by simp; omega
    clear h q1
    go_enter Try.func13, Try.ntmps13
    go_wp2
    refine bodyPost_ret (v := .tuple #[.agg #[.int .i64 0, .int .i64 0, .int .i64 0, .slice none 0 0, .int .i64 0, .int .i64 0], .int .i64 5]) (by simp [results, Try.results13, go_sem]) rfl (hF.out _ (by exact bel))
theorem ppoll_none (k : Nat) (hk : k < 6) (c0 : w.cell? ⟨svb, 3 + k, none⟩ = some (.pointer none)) :
    Calls Try.prog 13 #[.pointer (some ⟨svb, 0, none⟩), .int .i64 (k : Int)] w (PollAns (0, rd0, 5) w) := by
  have hF := hide (fun (w' : World) => PollAns.none 0 5 w w')
  have q2 : ((k : Int) < 0) = False := by simp
  have q4 : (6 ≤ (k : Int)) = False := by simp; omega
  have i1 : (0 : Int) ≤ (k : Int) ∧ (k : Int) < 6 := by omega
  have z0 := cell_lt c0
  simp only at z0
  go_enter Try.func13, Try.ntmps13
  go_wp2
  refine bodyPost_ret (v := .tuple #[.agg #[.int .i64 0, .int .i64 0, .int .i64 0, .slice none 0 0, .int .i64 0, .int .i64 0], .int .i64 5]) (by simp [results, Try.results13, go_sem]) rfl (hF.out _ (by exact bel))
set_option maxRecDepth 100000 in
set_option maxHeartbeats 4000000 in
theorem ppoll_some {es : List Ed} {n : Nat} {q : Sq} {x : Nat} {W N : Nat → Prop} (k : Nat) (hk : k < 6) (c0 : w.cell? ⟨svb, 3 + k, none⟩ = some (.pointer (some ⟨x, 0, none⟩))) (hQ : PQ es n q x W N w) (h64 : ∀ r, q.kept = some r → r.path.length ≤ 64) :
    Calls Try.prog 13 #[.pointer (some ⟨svb, 0, none⟩), .int .i64 (k : Int)] w (PollAns (pollQ (some q)) w) := by
  have q2 : ((k : Int) < 0) = False := by simp
  have q4 : (6 ≤ (k : Int)) = False := by simp; omega
  have i1 : (0 : Int) ≤ (k : Int) ∧ (k : Int) < 6 := by omega
  have zs := cell_lt c0
  simp only at zs
  obtain ⟨sb, cw, aw, rv, A, C, hQ⟩ := hQ
  have x0 := hQ.x0
  have zx : x < w.heap.size := cell_lt x0
  obtain ⟨ar, aw2, rc, wc, s5, s12⟩ := hQ.obj.cells
  have zb : sb < w.heap.size := cell_lt s5
  obtain ⟨hinv, htl, h8, h1, hn⟩ := hQ.obj.inv
  obtain ⟨T, hT⟩ : ∃ T, T = q.s.told.length := ⟨_, rfl⟩
  obtain ⟨m, hm⟩ : ∃ m, m = q.ws.length := ⟨_, rfl⟩
  have hR := fun (w' : World) (hb : Below w.heap.size w w') => aobj_rounds (hQ.obj.stays hb)
  rw [← hT] at hR s12 htl
  rw [← hm] at s5 htl h8 h1
  have hOv := hide (fun (w' : World) (hb : Below w.heap.size w w') => aover_any sb T rc m wc ar aw2 w' (cu_below hb s12 zb) (cu_below hb s5 zb))
  replace hR := hide hR
  cases hl : q.s.told.getLast? with
  | some r =>
    have hpq := hide (show pollQ (some q) = (if T = m then 4 else 2, r, 0) by unfold pollQ; simp only [hl, hT, hm])
    have hlast := hide (fun (w' : World) (B : Nat) (a : Option Addr) (c : Nat) (h : RoundsAt B w' (.slice a T c) q.s.told) => rounds_last h hT.symm hl)
    replace hT := hide hT
    replace hm := hide hm
    clear hQ hinv hl hn s12 s5
    go_enter Try.func13, Try.ntmps13
    go_wp2_with fail
    refine (hR.out _ (by exact bel)).mono ?_
    rintro e w1 ⟨al, cl, rfl, hRA, hb1⟩
    obtain ⟨gl, rv2, rfl, hpos, hgl, d0, d1, d2, d3, d4, hrd⟩ := hlast.out w1 _ _ _ hRA
    have j0 := cu_below hb1 (p := ⟨w.heap.size, 0, none⟩) (v := .int .i64 0) (by simp [go_sem]) (by simp)
    have j1 := cu_below hb1 (p := ⟨w.heap.size, 1, none⟩) (v := .int .i64 0) (by simp [go_sem]) (by simp)
    have j2 := cu_below hb1 (p := ⟨w.heap.size, 2, none⟩) (v := .int .i64 0) (by simp [go_sem]) (by simp)
    have j3 := cu_below hb1 (p := ⟨w.heap.size, 3, none⟩) (v := .slice none 0 0) (by simp [go_sem]) (by simp)
    have j4 := cu_below hb1 (p := ⟨w.heap.size, 4, none⟩) (v := .int .i64 0) (by simp [go_sem]) (by simp)
    have j5 := cu_below hb1 (p := ⟨w.heap.size, 5, none⟩) (v := .int .i64 0) (by simp [go_sem]) (by simp)
    have f0 := fu_below hb1 (p := ⟨w.heap.size, 0, none⟩) (by simp [go_sem]) (by simp)
    have f1 := fu_below hb1 (p := ⟨w.heap.size, 1, none⟩) (by simp [go_sem]) (by simp)
    have f2 := fu_below hb1 (p := ⟨w.heap.size, 2, none⟩) (by simp [go_sem]) (by simp)
    have f3 := fu_below hb1 (p := ⟨w.heap.size, 3, none⟩) (by simp [go_sem]) (by simp)
    have f4 := fu_below hb1 (p := ⟨w.heap.size, 4, none⟩) (by simp [go_sem]) (by simp)
    have f5 := fu_below hb1 (p := ⟨w.heap.size, 5, none⟩) (by simp [go_sem]) (by simp)
    have zw : w.heap.size < w1.heap.size := cell_lt j0
    have y0 := cu_below hb1 (p := ⟨x, 0, none⟩) (v := .pointer (some ⟨sb, 0, none⟩)) (by simp [go_sem, x0, zx]) (by simp; omega)
    have zx1 : x < w1.heap.size := by omega
    have hb2 : Below w.heap.size w w1 := ((Below.refl _ _).alloc (Nat.le_refl _) _).trans (hb1.mono (by simp))
    have hOv1 := hide (fun (w' : World) (hb : Below w1.heap.size w1 w') => hOv.out w' (hb2.trans (hb.mono hb2.size)))
    obtain ⟨u, hu⟩ : ∃ u, u = T - 1 := ⟨_, rfl⟩
    rw [← hu] at d0 d1 d2 d3 d4
    have hwu : IntKind.i64.wrap ((T : Int) - 1) = (u : Int) := by rw [IntWalk.i64_in _ (by omega)]; omega
    have i2 : (0 : Int) ≤ (u : Int) ∧ (u : Int) < (T : Int) := by omega
    have q6 : (0 < (T : Int)) = True := by simp; omega
    replace hu := hide hu
    have hpa := hrd.2.2.2.2.2
    have hpb := hpa.block_lt
    have hFin := hide (show ∀ (st : Int) (w' : World), st = (if T = m then 4 else 2) → Keep (fun j => j = w.heap.size) w1 w' → PollAns (pollQ (some q)) w (.returned (.tuple #[.agg #[.int .i64 st, .int .i64 rv2.na, .int .i64 rv2.nb, .slice rv2.pa rv2.pm rv2.pc, .int .i64 rv2.rc, .int .i64 rv2.dn], .int .i64 0])) w' from fun st w' hst kp => by
      rw [hpq.out, ← hst]
      obtain ⟨pa, pc, hev, hrow, -, -⟩ := hpa.row lenI
      refine ⟨rv2.pa, rv2.pm, rv2.pc, by rw [hrd.1, hrd.2.1, hrd.2.2.1, hrd.2.2.2.1], hrd.2.2.2.2.1.symm, ?_, below_k hb2 kp⟩
      simp only [Value.slice.injEq] at hev
      rw [hev.1]
      exact (row_keep hrow kp (fun b o e e2 => by have := (hpb b (by rw [hev.1, e]; rfl)).1; simp at this; omega)).mono kp.size)
    clear hrd hpa hpb hRA hR hlast hOv
    obtain ⟨b8, hb8⟩ : ∃ b8, b8 = w1.heap.size := ⟨_, rfl⟩
    obtain ⟨w8, hw8⟩ : ∃ w8, w8 = w1.alloc (.cells #[.int .i64 2, .int .i64 rv2.na, .int .i64 rv2.nb, .slice rv2.pa rv2.pm rv2.pc, .int .i64 rv2.rc, .int .i64 rv2.dn] 55) := ⟨_, rfl⟩
    have kp8 : Keep (fun j => j = w.heap.size) w1 w8 := by rw [hw8]; exact (Keep.refl _ _).alloc _
    have hb18 : Below w1.heap.size w1 w8 := by rw [hw8]; exact (Below.refl _ _).alloc (Nat.le_refl _) _
    have g0 : w8.cell? ⟨b8, 0, none⟩ = some (.int .i64 2) := by rw [hw8, hb8]; simp [go_sem]
    have g1 : w8.cell? ⟨b8, 1, none⟩ = some (.int .i64 rv2.na) := by rw [hw8, hb8]; simp [go_sem]
    have g2 : w8.cell? ⟨b8, 2, none⟩ = some (.int .i64 rv2.nb) := by rw [hw8, hb8]; simp [go_sem]
    have g3 : w8.cell? ⟨b8, 3, none⟩ = some (.slice rv2.pa rv2.pm rv2.pc) := by rw [hw8, hb8]; simp [go_sem]
    have g4 : w8.cell? ⟨b8, 4, none⟩ = some (.int .i64 rv2.rc) := by rw [hw8, hb8]; simp [go_sem]
    have g5 : w8.cell? ⟨b8, 5, none⟩ = some (.int .i64 rv2.dn) := by rw [hw8, hb8]; simp [go_sem]
    have gf : w8.frozen? ⟨b8, 0, none⟩ = false := by rw [hw8, hb8]; simp [go_sem]
    go_upto_region 7 with fail
    simp only [← hw8]
    simp only [← hb8]
    have zb8 : w.heap.size < b8 := by omega
    have zb81 : w1.heap.size ≤ b8 := by omega
    have zw8 : b8 < w8.heap.size := cell_lt g0
    have zx8 : x < w8.heap.size := by omega
    have y0 := cu_below hb18 y0 zx1
    have j0 := cu_below hb18 j0 zw
    have f0 := fu_below hb18 f0 zw
    have j1 := cu_below hb18 j1 zw
    have f1 := fu_below hb18 f1 zw
    have j2 := cu_below hb18 j2 zw
    have f2 := fu_below hb18 f2 zw
    have j3 := cu_below hb18 j3 zw
    have f3 := fu_below hb18 f3 zw
    have j4 := cu_below hb18 j4 zw
    have f4 := fu_below hb18 f4 zw
    have j5 := cu_below hb18 j5 zw
    have f5 := fu_below hb18 f5 zw
    have hOv2 := hide (hOv1.out w8 hb18)
    replace hw8 := hide hw8
    replace hb8 := hide hb8
    clear hOv1 hb1 hb18 hb2 d0 d1 d2 d3 d4
    go_wp2_with fail
    refine hOv2.out.mono ?_
    rintro e w9 ⟨rfl, kk, rfl⟩
    obtain ⟨w9, hw9⟩ : ∃ w9, w9 = w8.drewN kk := ⟨_, rfl⟩
    have kp9 : Keep (fun j => j = w.heap.size) w1 w9 := by rw [hw9]; exact kp8.drewN kk
    have j0 : w9.cell? ⟨w.heap.size, 0, none⟩ = some (.int .i64 0) := by rw [hw9]; exact cu_drewN j0
    have f0 : w9.frozen? ⟨w.heap.size, 0, none⟩ = false := by rw [hw9]; exact fu_drewN f0
    have j1 : w9.cell? ⟨w.heap.size, 1, none⟩ = some (.int .i64 0) := by rw [hw9]; exact cu_drewN j1
    have f1 : w9.frozen? ⟨w.heap.size, 1, none⟩ = false := by rw [hw9]; exact fu_drewN f1
    have j2 : w9.cell? ⟨w.heap.size, 2, none⟩ = some (.int .i64 0) := by rw [hw9]; exact cu_drewN j2
    have f2 : w9.frozen? ⟨w.heap.size, 2, none⟩ = false := by rw [hw9]; exact fu_drewN f2
    have j3 : w9.cell? ⟨w.heap.size, 3, none⟩ = some (.slice none 0 0) := by rw [hw9]; exact cu_drewN j3
    have f3 : w9.frozen? ⟨w.heap.size, 3, none⟩ = false := by rw [hw9]; exact fu_drewN f3
    have j4 : w9.cell? ⟨w.heap.size, 4, none⟩ = some (.int .i64 0) := by rw [hw9]; exact cu_drewN j4
    have f4 : w9.frozen? ⟨w.heap.size, 4, none⟩ = false := by rw [hw9]; exact fu_drewN f4
    have j5 : w9.cell? ⟨w.heap.size, 5, none⟩ = some (.int .i64 0) := by rw [hw9]; exact cu_drewN j5
    have f5 : w9.frozen? ⟨w.heap.size, 5, none⟩ = false := by rw [hw9]; exact fu_drewN f5
    have g0 : w9.cell? ⟨b8, 0, none⟩ = some (.int .i64 2) := by rw [hw9]; exact cu_drewN g0
    have g1 : w9.cell? ⟨b8, 1, none⟩ = some (.int .i64 rv2.na) := by rw [hw9]; exact cu_drewN g1
    have g2 : w9.cell? ⟨b8, 2, none⟩ = some (.int .i64 rv2.nb) := by rw [hw9]; exact cu_drewN g2
    have g3 : w9.cell? ⟨b8, 3, none⟩ = some (.slice rv2.pa rv2.pm rv2.pc) := by rw [hw9]; exact cu_drewN g3
    have g4 : w9.cell? ⟨b8, 4, none⟩ = some (.int .i64 rv2.rc) := by rw [hw9]; exact cu_drewN g4
    have g5 : w9.cell? ⟨b8, 5, none⟩ = some (.int .i64 rv2.dn) := by rw [hw9]; exact cu_drewN g5
    have gf : w9.frozen? ⟨b8, 0, none⟩ = false := by rw [hw9]; exact fu_drewN gf
    have hz9 : w9.heap.size = w8.heap.size := by rw [hw9]; simp
    simp only [← hw9]
    have zw9 : w.heap.size < w9.heap.size := by omega
    have zb9 : b8 < w9.heap.size := by omega
    replace hw9 := hide hw9
    clear kp8 y0
    by_cases hTm : T = m
    · have q7 : ((T : Int) == (m : Int)) = true := by simp [hTm]
      have hst : (4 : Int) = (if T = m then 4 else 2) := by rw [if_pos hTm]
      replace hst := hide hst
      clear hTm
      go_wp2
      refine bodyPost_ret (v := .tuple #[.agg #[.int .i64 4, .int .i64 rv2.na, .int .i64 rv2.nb, .slice rv2.pa rv2.pm rv2.pc, .int .i64 rv2.rc, .int .i64 rv2.dn], .int .i64 0]) (by simp [results, Try.results13, go_sem, j0, j1, j2, j3, j4, j5, zw9]) rfl (hFin.out 4 _ hst.out (by repeat (first | with_reducible exact Keep.refl _ _ | with_reducible assumption | with_reducible refine Keep.drewN ?_ _ | with_reducible refine Keep.drew ?_ | with_reducible refine Keep.alloc ?_ _ | (with_reducible refine Keep.setCell ?_ ?_ _; rotate_left; (first | exact .inl rfl | (right; simp; done) | (right; simp; omega))))))
    · have q7 : ((T : Int) == (m : Int)) = false := by simp; omega
      have hst : (2 : Int) = (if T = m then 4 else 2) := by rw [if_neg hTm]
      replace hst := hide hst
      clear hTm
      go_wp2
      refine bodyPost_ret (v := .tuple #[.agg #[.int .i64 2, .int .i64 rv2.na, .int .i64 rv2.nb, .slice rv2.pa rv2.pm rv2.pc, .int .i64 rv2.rc, .int .i64 rv2.dn], .int .i64 0]) (by simp [results, Try.results13, go_sem, j0, j1, j2, j3, j4, j5, zw9]) rfl (hFin.out 2 _ hst.out (by repeat (first | with_reducible exact Keep.refl _ _ | with_reducible assumption | with_reducible refine Keep.drewN ?_ _ | with_reducible refine Keep.drew ?_ | with_reducible refine Keep.alloc ?_ _ | (with_reducible refine Keep.setCell ?_ ?_ _; rotate_left; (first | exact .inl rfl | (right; simp; done) | (right; simp; omega))))))
  | none =>
    have hT0 : T = 0 := by rw [hT]; cases h : q.s.told with | nil => rfl | cons y l => rw [h] at hl; simp at hl
    subst hT0
    have x4 := hQ.x4
    have x5 := hQ.x5
    have x6 := hQ.x6
    have x7 := hQ.x7
    have x8 := hQ.x8
    have x9 := hQ.x9
    have hkp := hQ.kp
    cases hkq : q.kept with
    | none =>
      have hpq := hide (show pollQ (some q) = (1, rd0, 0) by unfold pollQ; simp only [hl, hkq])
      rw [hkq] at x9
      replace x9 : w.cell? ⟨x, 9, none⟩ = some (.bool false) := x9
      have hF := hide (fun (w' : World) (hb : Below w.heap.size w w') => show PollAns (pollQ (some q)) w _ w' from by rw [hpq.out]; exact PollAns.none 1 0 w w' hb)
      clear hQ hinv hl hn s12 s5 hT hm hOv hkp hkq h64 x4 x5 x6 x7 x8
      go_enter Try.func13, Try.ntmps13
      go_wp2_with fail
      refine (hR.out _ (by exact bel)).mono ?_
      rintro e w1 ⟨al, cl, rfl, hRA, hb1⟩
      have j0 := cu_below hb1 (p := ⟨w.heap.size, 0, none⟩) (v := .int .i64 0) (by simp [go_sem]) (by simp)
      have f0 := fu_below hb1 (p := ⟨w.heap.size, 0, none⟩) (by simp [go_sem]) (by simp)
      have j1 := cu_below hb1 (p := ⟨w.heap.size, 1, none⟩) (v := .int .i64 0) (by simp [go_sem]) (by simp)
      have f1 := fu_below hb1 (p := ⟨w.heap.size, 1, none⟩) (by simp [go_sem]) (by simp)
      have j2 := cu_below hb1 (p := ⟨w.heap.size, 2, none⟩) (v := .int .i64 0) (by simp [go_sem]) (by simp)
      have f2 := fu_below hb1 (p := ⟨w.heap.size, 2, none⟩) (by simp [go_sem]) (by simp)
      have j3 := cu_below hb1 (p := ⟨w.heap.size, 3, none⟩) (v := .slice none 0 0) (by simp [go_sem]) (by simp)
      have f3 := fu_below hb1 (p := ⟨w.heap.size, 3, none⟩) (by simp [go_sem]) (by simp)
      have j4 := cu_below hb1 (p := ⟨w.heap.size, 4, none⟩) (v := .int .i64 0) (by simp [go_sem]) (by simp)
      have f4 := fu_below hb1 (p := ⟨w.heap.size, 4, none⟩) (by simp [go_sem]) (by simp)
      have j5 := cu_below hb1 (p := ⟨w.heap.size, 5, none⟩) (v := .int .i64 0) (by simp [go_sem]) (by simp)
      have f5 := fu_below hb1 (p := ⟨w.heap.size, 5, none⟩) (by simp [go_sem]) (by simp)
      have zw : w.heap.size < w1.heap.size := cell_lt j0
      have y9 := cu_below hb1 (p := ⟨x, 9, none⟩) (v := .bool false) (by simp [go_sem, x9, zx]) (by simp; omega)
      have hb2 : Below w.heap.size w w1 := ((Below.refl _ _).alloc (Nat.le_refl _) _).trans (hb1.mono (by simp))
      clear hRA hR hb1
      go_wp2
      refine bodyPost_ret (v := .tuple #[.agg #[.int .i64 1, .int .i64 0, .int .i64 0, .slice none 0 0, .int .i64 0, .int .i64 0], .int .i64 0]) (by simp [results, Try.results13, go_sem, j0, j1, j2, j3, j4, j5, zw]) rfl (hF.out _ (by exact bel))
    | some r =>
      have hpq := hide (show pollQ (some q) = (3, r, 0) by unfold pollQ; simp only [hl, hkq])
      have hp64 := h64 r hkq
      rw [hkq] at x9 hkp
      replace x9 : w.cell? ⟨x, 9, none⟩ = some (.bool true) := x9
      have hrd : RoundAt w 0 rv r := hkp
      have hpm := hrd.2.2.2.2.1
      obtain ⟨pa, pc, hev, hrow, -, -⟩ := hrd.2.2.2.2.2.row lenI
      simp only [Value.slice.injEq] at hev
      rw [← hev.1] at hrow
      have hval := hide (show ∀ (av : Option Addr) (c : Nat), (Value.agg #[.int .i64 3, .int .i64 rv.na, .int .i64 rv.nb, .slice av rv.pm c, .int .i64 rv.rc, .int .i64 rv.dn]) = .agg #[.int .i64 3, .int .i64 r.wa, .int .i64 r.wb, .slice av r.path.length c, .int .i64 r.cost, .int .i64 (r.done : Int)] from fun av c => by rw [hrd.1, hrd.2.1, hrd.2.2.1, hrd.2.2.2.1, hpm])
      have hrow := hide hrow
      rw [← hpm] at hp64
      replace hpm := hide hpm
      clear hQ hinv hl hn s12 s5 hT hm hOv hkp hkq h64 hrd hev
      go_enter Try.func13, Try.ntmps13
      go_wp2_with fail
      refine (hR.out _ (by exact bel)).mono ?_
      rintro e w1 ⟨al, cl, rfl, hRA, hb1⟩
      have j0 := cu_below hb1 (p := ⟨w.heap.size, 0, none⟩) (v := .int .i64 0) (by simp [go_sem]) (by simp)
      have f0 := fu_below hb1 (p := ⟨w.heap.size, 0, none⟩) (by simp [go_sem]) (by simp)
      have j1 := cu_below hb1 (p := ⟨w.heap.size, 1, none⟩) (v := .int .i64 0) (by simp [go_sem]) (by simp)
      have f1 := fu_below hb1 (p := ⟨w.heap.size, 1, none⟩) (by simp [go_sem]) (by simp)
      have j2 := cu_below hb1 (p := ⟨w.heap.size, 2, none⟩) (v := .int .i64 0) (by simp [go_sem]) (by simp)
      have f2 := fu_below hb1 (p := ⟨w.heap.size, 2, none⟩) (by simp [go_sem]) (by simp)
      have j3 := cu_below hb1 (p := ⟨w.heap.size, 3, none⟩) (v := .slice none 0 0) (by simp [go_sem]) (by simp)
      have f3 := fu_below hb1 (p := ⟨w.heap.size, 3, none⟩) (by simp [go_sem]) (by simp)
      have j4 := cu_below hb1 (p := ⟨w.heap.size, 4, none⟩) (v := .int .i64 0) (by simp [go_sem]) (by simp)
      have f4 := fu_below hb1 (p := ⟨w.heap.size, 4, none⟩) (by simp [go_sem]) (by simp)
      have j5 := cu_below hb1 (p := ⟨w.heap.size, 5, none⟩) (v := .int .i64 0) (by simp [go_sem]) (by simp)
      have f5 := fu_below hb1 (p := ⟨w.heap.size, 5, none⟩) (by simp [go_sem]) (by simp)
      have y4 := cu_below hb1 (p := ⟨x, 4, none⟩) (v := .int .i64 rv.na) (by simp [go_sem, x4, zx]) (by simp; omega)
      have y5 := cu_below hb1 (p := ⟨x, 5, none⟩) (v := .int .i64 rv.nb) (by simp [go_sem, x5, zx]) (by simp; omega)
      have y6 := cu_below hb1 (p := ⟨x, 6, none⟩) (v := .slice rv.pa rv.pm rv.pc) (by simp [go_sem, x6, zx]) (by simp; omega)
      have y7 := cu_below hb1 (p := ⟨x, 7, none⟩) (v := .int .i64 rv.rc) (by simp [go_sem, x7, zx]) (by simp; omega)
      have y8 := cu_below hb1 (p := ⟨x, 8, none⟩) (v := .int .i64 rv.dn) (by simp [go_sem, x8, zx]) (by simp; omega)
      have zw : w.heap.size < w1.heap.size := cell_lt j0
      have y9 := cu_below hb1 (p := ⟨x, 9, none⟩) (v := .bool true) (by simp [go_sem, x9, zx]) (by simp; omega)
      have hb2 : Below w.heap.size w w1 := ((Below.refl _ _).alloc (Nat.le_refl _) _).trans (hb1.mono (by simp))
      have hrow1 := hide ((hrow.out.below hb2 (Nat.le_refl _)).mono hb2.size)
      have zx1 : x < w1.heap.size := by omega
      replace hb2 := hide hb2
      clear hRA hR hb1 hrow
      obtain ⟨b8, hb8⟩ : ∃ b8, b8 = w1.heap.size := ⟨_, rfl⟩
      obtain ⟨w8, hw8⟩ : ∃ w8, w8 = w1.alloc (.cells #[.int .i64 rv.na, .int .i64 rv.nb, .slice rv.pa rv.pm rv.pc, .int .i64 rv.rc, .int .i64 rv.dn] 53) := ⟨_, rfl⟩
      have hb18 : Below w1.heap.size w1 w8 := by rw [hw8]; exact (Below.refl _ _).alloc (Nat.le_refl _) _
      have g0 : w8.cell? ⟨b8, 0, none⟩ = some (.int .i64 rv.na) := by rw [hw8, hb8]; simp [go_sem]
      have g1 : w8.cell? ⟨b8, 1, none⟩ = some (.int .i64 rv.nb) := by rw [hw8, hb8]; simp [go_sem]
      have g2 : w8.cell? ⟨b8, 2, none⟩ = some (.slice rv.pa rv.pm rv.pc) := by rw [hw8, hb8]; simp [go_sem]
      have g3 : w8.cell? ⟨b8, 3, none⟩ = some (.int .i64 rv.rc) := by rw [hw8, hb8]; simp [go_sem]
      have g4 : w8.cell? ⟨b8, 4, none⟩ = some (.int .i64 rv.dn) := by rw [hw8, hb8]; simp [go_sem]
      have gf : w8.frozen? ⟨b8, 2, none⟩ = false := by rw [hw8, hb8]; simp [go_sem]
      have hrow8 := hide ((hrow1.out.below hb18 (Nat.le_refl _)).mono hb18.size)
      have hb28 := hide (hb2.out.trans (hb18.mono hb2.out.size))
      have j0 := cu_below hb18 j0 zw
      have f0 := fu_below hb18 f0 zw
      have j1 := cu_below hb18 j1 zw
      have f1 := fu_below hb18 f1 zw
      have j2 := cu_below hb18 j2 zw
      have f2 := fu_below hb18 f2 zw
      have j3 := cu_below hb18 j3 zw
      have f3 := fu_below hb18 f3 zw
      have j4 := cu_below hb18 j4 zw
      have f4 := fu_below hb18 f4 zw
      have j5 := cu_below hb18 j5 zw
      have f5 := fu_below hb18 f5 zw
      have zb8 : w.heap.size < b8 := by omega
      have zw8 : b8 < w8.heap.size := cell_lt g0
      go_upto_region 12 with fail
      simp only [← hw8]
      simp only [← hb8]
      replace hw8 := hide hw8
      replace hb8 := hide hb8
      clear hb18 hb2 hrow1 y4 y5 y6 y7 y8 y9
      go_upto_region 13 with (at_builtin; (refine wpList_all (enc := encI) (v := .slice none 0 0) (xs := []) (base := w8.heap.size) rfl (.const (.slice none 0 0)) (.tmp 66) 22 rfl _ 8 Try.underlying22 info_int rfl ?d1 lenI oneI 0 rfl rfl (Own.nil _ _) w8.heap.size rv.pa rv.pm rv.pc r.path ?d3 rfl hrow8.out ?d4 ?d5 ?d6 ?_); (case d1 => omega); (case d3 => exact hpm.out.symm); (case d4 => omega); (case d5 => unfold maxLen; omega); (case d6 => exact Nat.le_refl _); intro a4 c4 w9 own4 hb4 hg4; simp only [List.nil_append, Nat.zero_add] at own4 ⊢; have g0 := cu_below hb4 g0 zw8; have g1 := cu_below hb4 g1 zw8; have g2 := cu_below hb4 g2 zw8; have g3 := cu_below hb4 g3 zw8; have g4 := cu_below hb4 g4 zw8; have gf := fu_below hb4 gf zw8; replace own4 := hide own4; replace hb4 := hide hb4; clear hg4)
      have zww8 : w.heap.size < w8.heap.size := by omega
      have j0 := cu_below hb4.out j0 zww8
      have f0 := fu_below hb4.out f0 zww8
      have j1 := cu_below hb4.out j1 zww8
      have f1 := fu_below hb4.out f1 zww8
      have j2 := cu_below hb4.out j2 zww8
      have f2 := fu_below hb4.out f2 zww8
      have j3 := cu_below hb4.out j3 zww8
      have f3 := fu_below hb4.out f3 zww8
      have j4 := cu_below hb4.out j4 zww8
      have f4 := fu_below hb4.out f4 zww8
      have j5 := cu_below hb4.out j5 zww8
      have f5 := fu_below hb4.out f5 zww8
      have zw9 : w.heap.size < w9.heap.size := cell_lt j0
      have zb9 : b8 < w9.heap.size := cell_lt g0
      have hFin := hide (show ∀ w' : World, Keep (fun j => j = w.heap.size ∨ j = b8) w9 w' → PollAns (pollQ (some q)) w (.returned (.tuple #[.agg #[.int .i64 3, .int .i64 rv.na, .int .i64 rv.nb, .slice a4 rv.pm c4, .int .i64 rv.rc, .int .i64 rv.dn], .int .i64 0])) w' from fun w' kp => by
        rw [hpq.out, hval.out]
        have hb9 := hb28.out.trans (hb4.out.mono hb28.out.size)
        have hob := own4.out.block_lt
        obtain ⟨pa, pc, hev, hrow9, -, -⟩ := own4.out.row lenI
        simp only [Value.slice.injEq] at hev
        rw [← hev.1] at hrow9
        refine ⟨a4, r.path.length, c4, rfl, rfl, (row_keep hrow9 kp (fun b o e e2 => by have := hob b (by rw [e]; rfl); omega)).mono kp.size, ((Keep.new (S := fun j => w.heap.size ≤ j) hb9).trans (kp.mono (fun j _ e => by omega))).toBelow (fun _ h => h) (Nat.le_refl _)⟩)
      clear own4 hb4 hrow8 hb28
      go_wp2
      refine bodyPost_ret (v := .tuple #[.agg #[.int .i64 3, .int .i64 rv.na, .int .i64 rv.nb, .slice a4 rv.pm c4, .int .i64 rv.rc, .int .i64 rv.dn], .int .i64 0]) (by simp [results, Try.results13, go_sem, j0, j1, j2, j3, j4, j5, zw9]) rfl (hFin.out _ (by repeat (first | with_reducible exact Keep.refl _ _ | with_reducible assumption | with_reducible refine Keep.drewN ?_ _ | with_reducible refine Keep.drew ?_ | with_reducible refine Keep.alloc ?_ _ | (with_reducible refine Keep.setCell ?_ ?_ _; rotate_left; (first | exact .inl rfl | exact .inl (.inl rfl) | exact .inl (.inr rfl) | (right; simp; done) | (right; simp; omega))))))
end
theorem ppoll_any {σ : Sv} {svb : Nat} {P : Nat → Prop} {w : World} (hP : PSv σ svb P w) (id : Int) :
    Calls Try.prog 13 #[.pointer (some ⟨svb, 0, none⟩), .int .i64 id] w (PollAns (pollQ (σ.at id)) w) := by
  by_cases h : id < 0 ∨ 6 ≤ id
  · rw [at_out h]
    exact ppoll_out id h
  · obtain ⟨k, rfl⟩ := Int.eq_ofNat_of_zero_le (show 0 ≤ id by omega)
    have hk : k < 6 := by omega
    rw [at_in hk]
    obtain ⟨hok, hlt, ga, gc, xs, W, N, hX, hin⟩ := hP
    have cx := hX.cx k hk
    cases hq : σ.sl k with
    | none =>
      rw [hX.noneAt hk hq] at cx
      exact ppoll_none k hk cx
    | some q =>
      obtain ⟨x, hx, hQ⟩ := hX.someAt hk hq
      rw [hx] at cx
      exact ppoll_some k hk cx hQ (hok.q k q hk hq).k
end Go.Proofs.Ytccailcjclbhlaa
/-! serve's Frame: what it answers and leaves. No condition. -/
namespace Go.Proofs.Ytccailcjclbhlaa
open Go.RowKit
set_option linter.unusedSimpArgs false
set_option linter.unusedVariables false
section
variable {σ : Sv} {svb : Nat} {P : Nat → Prop} {w wr w' : World} {k : Nat}
theorem PLeft.stays (h : PLeft σ svb P w wr) (hb : Below wr.heap.size wr w') : PLeft σ svb P w w' := by
  refine ⟨⟨h.1.1, fun j hj => ?_, ?_⟩, h.2.trans (Keep.new hb)⟩
  · rcases hj with hj | hj
    · exact Nat.lt_of_lt_of_le (h.1.2.1 j (.inl hj)) hb.size
    · exact hj.2
  · obtain ⟨ga, gc, xs, W, N, hX, hin⟩ := h.1.2.2
    exact ⟨ga, gc, xs, W, N, hX.stays hb, fun i j q => (hin i j q).elim .inl (fun q => .inr ⟨q.1, Nat.lt_of_lt_of_le q.2 hb.size⟩)⟩
theorem PLeft.adv (h : PLeft σ svb P w wr) : PLeft σ.adv svb P w (wr.setCell ⟨svb, 9, none⟩ (.int .i64 (((σ.turn + 1) % 6 : Nat) : Int))) := by
  obtain ⟨⟨hok, hlt, ga, gc, xs, W, N, hX, hin⟩, hk⟩ := h
  have hs : grown P w wr svb := hin 6 svb (.inl hX.own)
  refine ⟨⟨⟨hok.g, by show (σ.turn + 1) % 6 < 6; omega, hok.q⟩, fun j hj => ?_, ga, gc, xs, W, N, hX.turned ((σ.turn + 1) % 6), fun i j q => ?_⟩, hk.setCell (p := ⟨svb, 9, none⟩) (hs.elim .inl (fun q => .inr q.1)) _⟩
  · rcases hj with hj | hj
    · simpa using hlt j (.inl hj)
    · simpa using hj.2
  · rcases hin i j q with q | q
    · exact .inl q
    · exact .inr ⟨q.1, by simpa using q.2⟩
/-- request k in use: what a step of its search leaves -/
theorem PLeft.use (h : PLeft σ svb P w wr) (hk : k < 6) {q : Sq} (hq : σ.sl k = some q) : ∃ x sb A C, wr.cell? ⟨svb, 3 + k, none⟩ = some (.pointer (some ⟨x, 0, none⟩)) ∧ wr.cell? ⟨x, 0, none⟩ = some (.pointer (some ⟨sb, 0, none⟩)) ∧ x ≠ svb ∧ AObj σ.cs.length q.t σ.es hZ q.ws q.s sb A C wr ∧ ∀ s' w', AObj σ.cs.length q.t σ.es hZ q.ws s' sb (grown A wr w') C w' → Keep A wr w' → PLeft { σ with sl := upz σ.sl k (some { q with s := s' }) } svb P w w' := by
  obtain ⟨⟨hok, hlt, ga, gc, xs, W, N, hX, hin⟩, hkp⟩ := h
  obtain ⟨x, hx, sb, cw, aw, rv, A, C, hQ⟩ := hX.someAt hk hq
  have cx := hX.cx k hk
  rw [hx] at cx
  have hxs : x ≠ svb := fun e => by have := hQ.wx; rw [e] at this; exact absurd (hX.lay.sep 6 k _ hX.own this) (by omega)
  refine ⟨x, sb, A, C, cx, hQ.x0, hxs, hQ.obj, fun s' w' hO kp => ?_⟩
  have hns : ¬ A svb := fun e => absurd (hX.lay.sep 6 k _ hX.own (hQ.aW _ e)) (by omega)
  have hnx := hQ.ax
  have zx : x < wr.heap.size := cell_lt hQ.x0
  have hQ2 : PQc σ.es σ.cs.length { q with s := s' } x sb cw aw rv (grown A wr w') C (fun j => j = x ∨ grown A wr w' j) (N k) w' :=
    ⟨kp.cu hQ.x0 hnx, kp.cu hQ.x1 hnx, kp.cu hQ.x2 hnx, kp.cu hQ.x3 hnx, kp.cu hQ.x4 hnx, kp.cu hQ.x5 hnx, kp.cu hQ.x6 hnx, kp.cu hQ.x7 hnx, kp.cu hQ.x8 hnx, kp.cu hQ.x9 hnx,
      fun o => (kp.frozen (p := ⟨x, o, none⟩) zx hnx).trans (hQ.fz o), hO, (row_keep hQ.wr kp (fun b o e e2 => hX.lay.ap k k b (hQ.aW b e2) (hQ.wN b o e))).mono kp.size, hQ.kp.keep kp (fun j e e2 => hX.lay.ap k k j (hQ.aW j e2) (hQ.pN j e)), .inl rfl, fun e => e.elim hnx (fun e => by omega), fun j e => .inr e, hQ.cN, hQ.wN, hQ.pN⟩
  have hslot := hX.slot hk kp (fun j e => .inr (hQ.aW j e)) (fun o _ v hv => kp.cu hv hns) (x := some x) (by rw [← hx]; exact kp.cu (hX.cx k hk) hns) (fun o => (kp.frozen (p := ⟨svb, o, none⟩) (show svb < _ from cell_lt hX.c0) hns).trans (hX.fz o)) (some { q with s := s' }) σ.es (W' := fun j => j = x ∨ grown A wr w' j) (N' := N k) (fun j e => ?_) (fun j e => .inr (.inl e)) (fun j e e2 => ?_) (.inr ⟨_, _, rfl, rfl, sb, cw, aw, rv, grown A wr w', C, hQ2⟩)
  · rw [← hx, upz_self xs k, show upz (fun _ => σ.es) k σ.es = (fun _ => σ.es) from upz_self (fun _ => σ.es) k] at hslot
    refine ⟨⟨⟨hok.g, hok.u, fun i q' hi hq' => ?_⟩, fun j hj => ?_, ga, gc, xs, _, _, hslot, fun i j e => ?_⟩, hkp.trans2 kp (fun j e => ?_)⟩
    · by_cases e : i = k
      · subst e
        rw [show ({ σ with sl := upz σ.sl i (some { q with s := s' }) } : Sv).sl = upz σ.sl i (some { q with s := s' }) from rfl, upz_same] at hq'
        cases hq'
        have h0 := hok.q i q hi hq
        exact ⟨h0.f, h0.t, h0.w, h0.k⟩
      · rw [show ({ σ with sl := upz σ.sl k (some { q with s := s' }) } : Sv).sl = upz σ.sl k (some { q with s := s' }) from rfl, upz_other _ _ e] at hq'
        exact hok.q i q' hi hq'
    · rcases hj with hj | hj
      · exact Nat.lt_of_lt_of_le (hlt j (.inl hj)) kp.size
      · exact hj.2
    · have up : ∀ {j}, grown P w wr j → grown P w w' j := fun h => h.elim .inl (fun h => .inr ⟨h.1, Nat.lt_of_lt_of_le h.2 kp.size⟩)
      by_cases q2 : i = k
      · subst q2
        rw [upz_same, upz_same] at e
        rcases e with (e | e | e) | e
        · exact up (hin i j (.inl (by rw [e]; exact hQ.wx)))
        · exact up (hin i j (.inl (hQ.aW j e)))
        · exact .inr ⟨by have := hkp.size; omega, e.2⟩
        · exact up (hin i j (.inr e))
      · rw [upz_other _ _ q2, upz_other _ _ q2] at e
        exact up (hin i j e)
    · rcases hin k j (.inl (hQ.aW j e)) with e | e
      · exact .inl e
      · exact .inr e.1
  · rcases e with e | e | e
    · exact .inl (by rw [e]; exact hQ.wx)
    · exact .inl (hQ.aW j e)
    · exact .inr e
  · rcases e with e | e | e
    · subst e; exact hX.lay.ap k k j hQ.wx e2
    · exact hX.lay.ap k k j (hQ.aW j e) e2
    · have := hX.lay.lt k j (.inr e2); omega
theorem PLeft.cells (h : PLeft σ svb P w wr) : σ.turn < 6 ∧ wr.cell? ⟨svb, 9, none⟩ = some (.int .i64 (σ.turn : Int)) ∧ wr.frozen? ⟨svb, 9, none⟩ = false ∧ (σ.sl σ.turn = none → wr.cell? ⟨svb, 3 + σ.turn, none⟩ = some (.pointer none)) := by
  obtain ⟨⟨hok, hlt, ga, gc, xs, W, N, hX, hin⟩, hkp⟩ := h
  refine ⟨hok.u, hX.c9, hX.fz 9, fun e => ?_⟩
  have := hX.cx σ.turn hok.u
  rw [hX.noneAt hok.u e] at this
  exact this
end
theorem asteps_more1 {ws : List P2} {es : List Ed} {h : Nat → Int} {n tg j : Nat} {s s' : AS} (hl : s.told.length < ws.length) (hs : ASteps ws es h n tg 1 s j s') : j = 1 ∧ AStep ws es h n tg s s' := by
  cases hs with
  | over _ _ ho => omega
  | step k j s s1 s2 hlt h1 h2 =>
    cases h2 with
    | zero _ => exact ⟨rfl, h1⟩
    | over _ _ ho => exact ⟨rfl, h1⟩
set_option maxRecDepth 100000 in
set_option maxHeartbeats 1000000 in
theorem pframe_bad (svb : Nat) (b : Int) (w : World) (h : frameErr b ≠ 0) :
    Calls Try.prog 7 #[.pointer (some ⟨svb, 0, none⟩), .int .i64 b] w fun e w' => e = .returned (.tuple #[.int .i64 0, .int .i64 1]) ∧ Below w.heap.size w w' := by
  have hb : b < 0 ∨ b > 10000 := Classical.byContradiction fun hc => h (by unfold frameErr; rw [if_neg hc])
  by_cases q1 : b < 0
  · have q2 : (b < 0) = True := by simp [q1]
    clear h hb q1
    go_enter Try.func7, Try.ntmps7
    go_wp2
    refine bodyPost_ret (v := .tuple #[.int .i64 0, .int .i64 1]) (by simp [results, Try.results7, go_sem]) rfl ⟨rfl, bel⟩
  · have q2 : (b < 0) = False := by simp [q1]
    have q3 : (10000 < b) = True := by simp; omega
    clear h hb q1
    go_enter Try.func7, Try.ntmps7
    go_wp2
    refine bodyPost_ret (v := .tuple #[.int .i64 0, .int .i64 1]) (by simp [results, Try.results7, go_sem]) rfl ⟨rfl, bel⟩
set_option maxRecDepth 100000 in
set_option maxHeartbeats 8000000 in
theorem pframe_ok {σ : Sv} {svb : Nat} {P : Nat → Prop} {w : World} (hP : PSv σ svb P w) (B : Nat) (hB : B ≤ 10000) :
    Calls Try.prog 7 #[.pointer (some ⟨svb, 0, none⟩), .int .i64 (B : Int)] w fun e w' => ∃ (k : Nat) (σ' : Sv), e = .returned (.tuple #[.int .i64 (k : Int), .int .i64 0]) ∧ Fr σ B σ' k ∧ PLeft σ' svb P w w' := by
  have h0 := hide (PLeft.same hP (Below.refl _ _))
  have hu := hide hP.1.u
  have q2 : ((B : Int) < 0) = False := by simp
  have q3 : (10000 < (B : Int)) = False := by simp; omega
  clear hP
  go_enter Try.func7, Try.ntmps7
  go_wp2_with fail
  go_loopw [6, 7] (fun i6 i7 wr => ∃ (used idle b : Nat) (σ0 σ1 : Sv), i6 = .int .i64 (used : Int) ∧ i7 = .int .i64 (idle : Int) ∧ used + b = B ∧ idle ≤ 6 ∧ Hid (PLeft σ1 svb P w wr) ∧ Hid (Idle σ0 idle b σ1) ∧ Hid (∀ σ' k, Fr σ0 b σ' k → Fr σ B σ' (used + k))) (fun i6 i7 _ => 7 * (B - (intOf i6).toNat) + (6 - (intOf i7).toNat))
  case atStart => exact ⟨0, 0, B, σ, σ, rfl, rfl, by omega, by omega, h0, hide (Idle.zero hu.out B), hide (fun σ' k h => by rw [Nat.zero_add]; exact h)⟩
  case round =>
    obtain ⟨used, idle, b, σ0, σ1, rfl, rfl, hub, hi6, hL, hI, hF⟩ := hrel
    by_cases hb : b = 0
    · have q4 : ((used : Int) < (B : Int)) = False := by simp; omega
      have hfin := hide (show Fr σ B σ1 used from by
        obtain ⟨e1, _, _, _, e2⟩ := hI.out
        subst hb
        have h0 : idle = 0 := by omega
        subst h0
        rw [e1]
        exact hF.out _ 0 (Fr.stop σ0))
      clear hub hb
      go_wp2
      refine bodyPost_ret (v := .tuple #[.int .i64 (used : Int), .int .i64 0]) (by simp [results, Try.results7, go_sem]) rfl ⟨used, σ1, rfl, hfin.out, hL.out⟩
    · have q4 : ((used : Int) < (B : Int)) = True := by simp; omega
      by_cases hi : idle = 6
      · have q5 : ((idle : Int) < 6) = False := by simp; omega
        have hfin := hide (show Fr σ B σ1 used from by
          have h6 := hI.out
          rw [hi] at h6
          obtain ⟨e1, e2⟩ := h6.six
          rw [e1]
          exact hF.out _ 0 (Fr.over σ0 b e2))
        clear hub hb hi
        go_wp2
        refine bodyPost_ret (v := .tuple #[.int .i64 (used : Int), .int .i64 0]) (by simp [results, Try.results7, go_sem]) rfl ⟨used, σ1, rfl, hfin.out, hL.out⟩
      · have q5 : ((idle : Int) < 6) = True := by simp; omega
        obtain ⟨hk, c9, f9, hnone⟩ := hL.out.cells
        obtain ⟨k, hkk⟩ : ∃ k, k = σ1.turn := ⟨_, rfl⟩
        rw [← hkk] at hk c9 hnone
        have zs : svb < wr.heap.size := cell_lt c9
        have hw1 : IntKind.i64.wrap ((k : Int) + 1) = (k : Int) + 1 := IntWalk.i64_in _ (by omega)
        have hw2 : ((k : Int) + 1).tmod 6 = ((k : Int) + 1) % 6 := Int.tmod_eq_emod_of_nonneg (by omega)
        have hcast : (((k + 1) % 6 : Nat) : Int) = ((k : Int) + 1) % 6 := by omega
        have i1 : (0 : Int) ≤ (k : Int) ∧ (k : Int) < 6 := by omega
        have hL2 := hide (fun (wx : World) (h : PLeft σ1 svb P w wx) => show PLeft σ1.adv svb P w (wx.setCell ⟨svb, 9, none⟩ (.int .i64 (((k : Int) + 1) % 6))) from by rw [← hcast, hkk]; exact h.adv)
        replace hcast := hide hcast
        cases hq : σ1.sl k with
        | none =>
          have cx := hnone hq
          have hI2 := hide (hI.out.next (by omega) (by omega) (by rw [← hkk, hq]; exact fun h => h))
          have hL3 := hide (fun (n : Nat) => hL2.out (wr.drewN n) (hL.out.stays (below_drewN (Below.refl _ _) n)))
          replace hkk := hide hkk
          replace hq := hide hq
          clear hnone hb hL hI hL2
          go_wp2_with fail
          go_quiet (fail)
          go_wp2_with fail
          go_roundw
          case rel => exact ⟨used, idle + 1, b, σ0, σ1.adv, rfl, by go_num, by omega, by omega, hide (hL3.out _), hI2, hF⟩
          case measure => simp [intOf]; omega
        | some q =>
          obtain ⟨x, sb0, A0, C0, cx, cx0, hxs, -, -⟩ := hL.out.use hk hq
          have zx : x < wr.heap.size := cell_lt cx0
          have hL3 := hide (fun (n : Nat) => hL2.out (wr.drewN n) (hL.out.stays (below_drewN (Below.refl _ _) n)))
          have hI3 := hide (fun (hn : ¬ liveQ (some q)) => hI.out.next (by omega) (by omega) (by rw [← hkk, hq]; exact hn))
          have hF3 := hide (fun (hl : liveQ (some q)) (hs : AStep q.ws σ1.es hZ σ1.cs.length q.t q.s (sNext σ1.es σ1.cs.length q.t q.ws q.s)) => show ∀ b', b = b' + 1 → ∀ σ' k', Fr σ1.step.adv b' σ' k' → Fr σ B σ' (used + 1 + k') from fun b' e σ' k' h => by
            have h1 : Fr σ1 b σ' (k' + 1) := by rw [e]; exact Fr.step σ1 b' σ' k' (by rw [← hkk, hq]; exact hl) (by rw [← hkk]; exact hk) (fun q' hq' => by rw [← hkk, hq] at hq'; cases hq'; exact hs) h
            have h2 := hF.out σ' (k' + 1) (hI.out.fr (hI.out.liveHere (by rw [← hkk]; exact hk) (by rw [← hkk, hq]; exact hl)) h1)
            rwa [Nat.add_assoc, Nat.add_comm 1 k'])
          have hst := hide (show ∀ s', σ1.adv.cs.length = σ1.cs.length ∧ (s' = sNext σ1.es σ1.cs.length q.t q.ws q.s → { σ1.adv with sl := upz σ1.adv.sl k (some { q with s := s' }) } = σ1.step.adv) from fun s' => ⟨rfl, fun e => by
            subst e
            unfold Sv.step
            rw [← hkk, hq]
            unfold Sv.adv
            rw [← hkk]
            rfl⟩)
          have hqa : σ1.adv.sl k = some q := hq
          replace hkk := hide hkk
          replace hq := hide hq
          clear hnone hI hL2
          go_wp2_with fail
          go_quiet (fail)
          obtain ⟨w1, hwx⟩ : ∃ w1, w1 = (wr.drewN nq).setCell ⟨svb, 9, none⟩ (.int .i64 (((k : Int) + 1) % 6)) := ⟨_, rfl⟩
          have hL4 := hide (show PLeft σ1.adv svb P w w1 from by rw [hwx]; exact hL3.out nq)
          have hsx : svb ≠ x := fun e => hxs e.symm
          have y0 : w1.cell? ⟨x, 0, none⟩ = some (.pointer (some ⟨sb0, 0, none⟩)) := by rw [hwx]; exact cu_set (cu_drewN cx0) hsx
          obtain ⟨x1, sb1, A1, C1, g1, g2, -, hO1, -⟩ := hL4.out.use hk hqa
          have hc1 : w1.cell? ⟨svb, 3 + k, none⟩ = some (.pointer (some ⟨x, 0, none⟩)) := by rw [hwx]; exact cu_set_off (cu_drewN cx) (by omega)
          have e1 : x1 = x := by
            rw [g1] at hc1
            simpa using hc1
          subst e1
          have e2 : sb1 = sb0 := by rw [g2] at y0; simpa using y0
          subst e2
          have hc1 := hide hc1
          obtain ⟨hinv, htl, h8, h1m, hn⟩ := hO1.inv
          obtain ⟨ar, aw, rc, wc, s5, s12⟩ := hO1.cells
          obtain ⟨T, hT⟩ : ∃ T, T = q.s.told.length := ⟨_, rfl⟩
          obtain ⟨m, hm⟩ : ∃ m, m = q.ws.length := ⟨_, rfl⟩
          rw [← hm] at s5
          rw [← hT] at s12
          have hOv := hide (aover_any sb1 T rc m wc ar aw w1 s12 s5)
          clear g1 g2 hO1 s5 s12
          go_wp2_with fail
          simp only [← hwx]
          replace hwx := hide hwx
          refine hOv.out.mono ?_
          rintro e w2 ⟨rfl, k2, rfl⟩
          have y2 := cu_drewN (n := k2) y0
          have zx2 : x1 < (w1.drewN k2).heap.size := cell_lt y2
          have hL5 := hide (hL4.out.stays (below_drewN (Below.refl _ _) k2))
          clear cx cx0 hL3 hOv hL4
          by_cases hTm : T = m
          · have q7 : ((T : Int) == (m : Int)) = true := by simp [hTm]
            have hI4 := hide (hI3.out (by unfold liveQ; omega))
            replace hT := hide hT
            replace hm := hide hm
            clear hTm hF3 hst hI3 y0
            go_wp2_with fail
            go_roundw
            case rel => exact ⟨used, idle + 1, b, σ0, σ1.adv, rfl, by go_num, by omega, by omega, hL5, hI4, hF⟩
            case measure => simp [intOf]; omega
          · have q7 : ((T : Int) == (m : Int)) = false := by simp; omega
            have hlive : q.s.told.length < q.ws.length := by omega
            have hF4 := hide (fun hs => hF3.out hlive hs (b - 1) (by omega))
            obtain ⟨w2, hw2'⟩ : ∃ w2, w2 = w1.drewN k2 := ⟨_, rfl⟩
            rw [← hw2'] at y2 zx2 hL5
            obtain ⟨x3, sb3, A3, C3, g1, g2, -, hO3, hStep⟩ := hL5.out.use hk hqa
            have e3 : x3 = x1 := by
              have h := cu_drewN (n := k2) hc1.out
              rw [← hw2', g1] at h
              simpa using h
            subst e3
            have e4 : sb3 = sb1 := by rw [g2] at y2; simpa using y2
            subst e4
            have htg : q.t < σ1.adv.cs.length := (hL5.out.1.1.q k q hk hqa).t
            have hSt := hide (aobj_step htg 1 (by omega) hO3)
            replace hT := hide hT
            replace hm := hide hm
            simp only [← hw2']
            replace hw2' := hide hw2'
            have hw3 : IntKind.i64.wrap ((used : Int) + 1) = ((used + 1 : Nat) : Int) := by rw [IntWalk.i64_in _ (by omega)]; omega
            clear hTm hI3 y0 g1 hO3
            go_wp2_with fail
            refine hSt.out.mono ?_
            rintro e w3 ⟨k', s', rfl, hAs, hO4, hkA⟩
            obtain ⟨rfl, hAst⟩ := asteps_more1 hlive hAs
            have hPL := hStep s' w3 hO4 hkA
            rw [(hst.out s').2 (sNext_is hAst)] at hPL
            have hPL := hide hPL
            have hF5 := hide (hF4.out (by have e : s' = sNext σ1.es σ1.cs.length q.t q.ws q.s := sNext_is hAst; rw [← e]; exact hAst))
            clear hStep hO4 hkA hAs hAst hL5 hSt hF4
            go_wp2_with fail
            go_roundw
            case rel => exact ⟨used + 1, 0, b - 1, σ1.step.adv, σ1.step.adv, by go_num, rfl, by omega, by omega, hPL, hide (Idle.zero hPL.out.cells.1 _), hF5⟩
            case measure => simp [intOf]; omega
end Go.Proofs.Ytccailcjclbhlaa
/-! What the program's service answers, all together: Edit, Frame. No condition. -/
namespace Go.Proofs.Ytccailcjclbhlaa
open Go.RowKit
set_option linter.unusedSimpArgs false
set_option linter.unusedVariables false
section
variable {σ : Sv} {svb rvb : Nat} {P : Nat → Prop} {w : World}
theorem pedit_same (hP : PSv σ svb P w) (a : Nat) (g : Int) (ha : a < σ.cs.length) (hg : 0 ≤ g ∧ g ≤ 9) (he : σ.cs[a] = g) :
    Calls Try.prog 9 #[.pointer (some ⟨svb, 0, none⟩), .int .i64 (a : Int), .int .i64 g] w fun e w' => e = .returned (.int .i64 0) ∧ Below w.heap.size w w' := by
  obtain ⟨hok, hlt, ga, gc, xs, W, N, hX, hin⟩ := hP
  have hn := hok.n
  obtain ⟨b, rfl, hWb, e0, fb, hX1⟩ := hX.ground a ha g
  have c2 := hX.c2
  have zs : svb < w.heap.size := cell_lt c2
  have zb : b < w.heap.size := cell_lt e0
  rw [he] at e0
  obtain ⟨m, hm⟩ : ∃ m, m = σ.cs.length := ⟨_, rfl⟩
  rw [← hm] at c2
  have i1 : (0 : Int) ≤ (a : Int) ∧ (a : Int) < (m : Int) := by omega
  have q1 : ((a : Int) < 0) = False := by simp
  have q2 : ((m : Int) ≤ (a : Int)) = False := by simp; omega
  have q3 : (g < 0) = False := by simp; omega
  have q4 : (9 < g) = False := by simp; omega
  have q5 : (g == g) = true := by simp
  replace hm := hide hm
  clear hX1 hX hin hlt hok hn fb hWb he ha hg
  go_enter Try.func9, Try.ntmps9
  go_wp2
  go_ret
  exact ⟨rfl, bel⟩
theorem editOk {x g : Int} (h : editErr σ x g = 0) : ∃ a : Nat, x = (a : Int) ∧ a < σ.cs.length ∧ 0 ≤ g ∧ g ≤ 9 := by
  unfold editErr at h
  by_cases h1 : x < 0 ∨ x ≥ (σ.cs.length : Int)
  · rw [if_pos h1] at h; omega
  · rw [if_neg h1] at h
    by_cases h2 : g < 0 ∨ g > 9
    · rw [if_pos h2] at h; omega
    · obtain ⟨a, rfl⟩ := Int.eq_ofNat_of_zero_le (show 0 ≤ x by omega)
      exact ⟨a, rfl, by omega, by omega, by omega⟩
theorem editIs_same {a : Nat} {g : Int} (h : editErr σ (a : Int) g = 0) (ha : a < σ.cs.length) (he : σ.cs[a] = g) : EditIs σ (a : Int) g 0 σ := .inr ⟨h, rfl, .inl ⟨by show σ.cs[a]? = some g; rw [List.getElem?_eq_getElem ha, he], rfl⟩⟩
theorem editIs_go {a : Nat} {g : Int} (h : editErr σ (a : Int) g = 0) (ha : a < σ.cs.length) (he : σ.cs[a] ≠ g) : EditIs σ (a : Int) g 0 (σ.edK a g 6) := .inr ⟨h, rfl, .inr ⟨by show σ.cs[a]? ≠ some g; rw [List.getElem?_eq_getElem ha]; simpa using he, rfl⟩⟩
theorem pedit_any (hP : PSv σ svb P w) (x g : Int) :
    Calls Try.prog 9 #[.pointer (some ⟨svb, 0, none⟩), .int .i64 x, .int .i64 g] w fun e w' => ∃ er σ', e = .returned (.int .i64 er) ∧ EditIs σ x g er σ' ∧ PLeft σ' svb P w w' := by
  by_cases h0 : editErr σ x g = 0
  · obtain ⟨a, rfl, ha, hg⟩ := editOk h0
    by_cases he : σ.cs[a] = g
    · refine (pedit_same hP a g ha hg he).mono ?_
      rintro e w' ⟨rfl, hb⟩
      exact ⟨0, σ, rfl, editIs_same h0 ha he, PLeft.same hP hb⟩
    · refine (pedit_go hP a g ha hg he).mono ?_
      rintro e w' ⟨rfl, hL⟩
      exact ⟨0, _, rfl, editIs_go h0 ha he, hL⟩
  · have hG : ∃ W H, Gd W H σ.cs svb w := by obtain ⟨hok, hlt, ga, gc, xs, W, N, hX, hin⟩ := hP; exact ⟨_, _, hX.gd⟩
    obtain ⟨W, H, hG⟩ := hG
    refine (pedit_bad (σ := σ) rfl hG x g h0).mono ?_
    rintro e w' ⟨rfl, hb⟩
    exact ⟨_, σ, rfl, .inl ⟨h0, rfl, rfl⟩, PLeft.same hP hb⟩
end
section
variable {σ : Sv} {svb rvb : Nat} {P : Nat → Prop} {w : World}
theorem frameOk {b : Int} (h : frameErr b = 0) : ∃ B : Nat, b = (B : Int) ∧ B ≤ 10000 := by
  unfold frameErr at h
  by_cases h1 : b < 0 ∨ b > 10000
  · rw [if_pos h1] at h; omega
  · obtain ⟨B, rfl⟩ := Int.eq_ofNat_of_zero_le (show 0 ≤ b by omega)
    exact ⟨B, rfl, by omega⟩
theorem pframe_any (hP : PSv σ svb P w) (b : Int) :
    Calls Try.prog 7 #[.pointer (some ⟨svb, 0, none⟩), .int .i64 b] w fun e w' => ∃ n er σ', e = .returned (.tuple #[.int .i64 n, .int .i64 er]) ∧ FrameIs σ b n er σ' ∧ PLeft σ' svb P w w' := by
  by_cases h0 : frameErr b = 0
  · obtain ⟨B, rfl, hB⟩ := frameOk h0
    refine (pframe_ok hP B hB).mono ?_
    rintro e w' ⟨k, σ', rfl, hF, hL⟩
    exact ⟨k, 0, σ', rfl, .inr ⟨h0, rfl, k, rfl, hF⟩, hL⟩
  · refine (pframe_bad svb b w h0).mono ?_
    rintro e w' ⟨rfl, hb⟩
    exact ⟨0, 1, σ, rfl, .inl ⟨h0, rfl, rfl, rfl⟩, PLeft.same hP hb⟩
end
section
variable {σ : Sv} {svb rvb : Nat} {P : Nat → Prop} {w : World}
end
end Go.Proofs.Ytccailcjclbhlaa
/-! From all to all by costs: Warshall with min and sums says what the rounds say, or shows a bad cycle. No program here. -/
namespace Go.Proofs.Ytccailcjclbhlaa
set_option linter.unusedVariables false

section
variable {α : Type} {or thn : α → α → α}
end

def stF (i : Nat) : Nat → Int := fun v => if v = i then 0 else FAR
def esk (es : List NE) (k i : Nat) : List NE := es.filter fun e => decide (e.u = i ∨ e.u < k)
theorem stF_far (i : Nat) : ∀ v, stF i v ≤ FAR := by intro v; unfold stF; split <;> simp [FAR]
structure INV (n : Nat) (es : List NE) (k : Nat) (m : Nat → Nat → Int) : Prop where
  diag : ∀ i, i < n → m i i = 0
  feas : ∀ i, i < n → Feas (esk es k i) (m i)
  att : ∀ i, i < n → Att (esk es k i) (stF i) (m i)
section
variable {n : Nat} {es : List NE}
end
end Go.Proofs.Ytccailcjclbhlaa
/-! The way back along least costs: the place before each place; costs that no edge undercuts. No program here. -/
namespace Go.Proofs.Ytccailcjclbhlaa
set_option linter.unusedVariables false

/-- the place before v on a least way: the least that there is -/
def prevF (n : Nat) (E : List NE) (d : Nat → Int) (v : Nat) : Nat := E.foldl (fun u e => if e.v = v ∧ d e.u + e.c = d v then min u e.u else u) n
/-- step by step back -/
def backF (n : Nat) (E : List NE) (d : Nat → Int) (t : Nat) : Nat → Nat | 0 => t | i + 1 => prevF n E d (backF n E d t i)
end Go.Proofs.Ytccailcjclbhlaa
