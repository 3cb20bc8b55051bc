/-
  Flows and cuts: what a way back through what is free does to a flow; no flow is greater than a cut's room. No program here.
-/
import Derived.Test.YtcehdpeeaogpiaaPlainB
namespace Go.Proofs.Ytcehdpeeaogpiaa
set_option linter.unusedSimpArgs false
set_option linter.unusedVariables false
/-- a sum over edges with their numbers -/
def esum (g : Nat → NE → Int) : List NE → Nat → Int
  | [], _ => 0
  | e :: r, k => g k e + esum g r (k + 1)
def ifv (b : Prop) [Decidable b] (x : Int) : Int := if b then x else 0
theorem ifv_t {b : Prop} [Decidable b] (x : Int) (h : b) : ifv b x = x := if_pos h
theorem ifv_f {b : Prop} [Decidable b] (x : Int) (h : ¬ b) : ifv b x = 0 := if_neg h
theorem esum_congr {g h : Nat → NE → Int} : ∀ (E : List NE) (k : Nat), (∀ i e, E[i]? = some e → g (k + i) e = h (k + i) e) → esum g E k = esum h E k
  | [], _, _ => rfl
  | e :: r, k, H => by
    simp only [esum]
    have h0 := H 0 e rfl
    rw [Nat.add_zero] at h0
    rw [h0, esum_congr r (k + 1) (fun i e' he => (by have := H (i + 1) e' (by simpa using he); rwa [show k + (i + 1) = k + 1 + i by omega] at this : g (k + 1 + i) e' = h (k + 1 + i) e'))]
theorem esum_le {g h : Nat → NE → Int} : ∀ (E : List NE) (k : Nat), (∀ i e, E[i]? = some e → g (k + i) e ≤ h (k + i) e) → esum g E k ≤ esum h E k
  | [], _, _ => Int.le_refl _
  | e :: r, k, H => by
    simp only [esum]
    have h0 := H 0 e rfl
    rw [Nat.add_zero] at h0
    have := esum_le r (k + 1) (fun i e' he => by have := H (i + 1) e' (by simpa using he); rwa [show k + (i + 1) = k + 1 + i by omega] at this)
    omega
theorem esum_eq_each {g h : Nat → NE → Int} : ∀ (E : List NE) (k : Nat), (∀ i e, E[i]? = some e → g (k + i) e ≤ h (k + i) e) → esum g E k = esum h E k → ∀ i e, E[i]? = some e → g (k + i) e = h (k + i) e
  | [], _, _, _, i, e, he => by simp at he
  | x :: r, k, H, hs, i, e, he => by
    simp only [esum] at hs
    have h0 := H 0 x rfl
    rw [Nat.add_zero] at h0
    have H' : ∀ i e, r[i]? = some e → g (k + 1 + i) e ≤ h (k + 1 + i) e := fun i e' he => by have := H (i + 1) e' (by simpa using he); rwa [show k + (i + 1) = k + 1 + i by omega] at this
    have h1 := esum_le r (k + 1) H'
    cases i with
    | zero =>
      simp at he
      subst he
      rw [Nat.add_zero]
      omega
    | succ i =>
      have := esum_eq_each r (k + 1) H' (by omega) i e (by simpa using he)
      rwa [show k + (i + 1) = k + 1 + i by omega]
theorem esum_const {c : Int} : ∀ (E : List NE) (k : Nat), esum (fun _ _ => c) E k = c * (E.length : Int)
  | [], _ => by simp [esum]
  | e :: r, k => by
    simp only [esum, List.length_cons]
    rw [esum_const r (k + 1)]
    push_cast
    rw [Int.mul_add]
    omega
theorem esum_add (g h : Nat → NE → Int) : ∀ (E : List NE) (k : Nat), esum (fun i e => g i e + h i e) E k = esum g E k + esum h E k
  | [], _ => rfl
  | e :: r, k => by simp only [esum]; rw [esum_add g h r]; omega
theorem esum_sub (g h : Nat → NE → Int) : ∀ (E : List NE) (k : Nat), esum (fun i e => g i e - h i e) E k = esum g E k - esum h E k
  | [], _ => rfl
  | e :: r, k => by simp only [esum]; rw [esum_sub g h r]; omega
/-- what goes out of a place less what comes in -/
def ov (fl : Nat → Int) (x : Nat) (k : Nat) (e : NE) : Int := ifv (e.u = x) (fl k) - ifv (e.v = x) (fl k)
def outv (fl : Nat → Int) (E : List NE) (x : Nat) : Int := esum (ov fl x) E 0
theorem esum_upd (fl : Nat → Int) (x i : Nat) (y : Int) : ∀ (E : List NE) (k : Nat) (e : NE), k ≤ i → E[i - k]? = some e → esum (ov (upz fl i y) x) E k = esum (ov fl x) E k + (ifv (e.u = x) (y - fl i) - ifv (e.v = x) (y - fl i))
  | [], _, e, _, he => by simp at he
  | a :: r, k, e, hk, he => by
    simp only [esum]
    by_cases hki : i = k
    · subst hki
      simp at he
      subst he
      have h1 : esum (ov (upz fl i y) x) r (i + 1) = esum (ov fl x) r (i + 1) := esum_congr r (i + 1) (fun j e' _ => by unfold ov; rw [upz_other _ _ (by omega)])
      rw [h1]
      unfold ov ifv
      rw [upz_same]
      split <;> split <;> omega
    · have h1 := esum_upd fl x i y r (k + 1) e (by omega) (by rw [show i - k = (i - (k + 1)) + 1 by omega] at he; simpa using he)
      rw [h1]
      have : ov (upz fl i y) x k a = ov fl x k a := by unfold ov; rw [upz_other _ _ (by omega)]
      rw [this]
      omega
theorem outv_upd (fl : Nat → Int) (E : List NE) (x i : Nat) (y : Int) (e : NE) (he : E[i]? = some e) : outv (upz fl i y) E x = outv fl E x + (ifv (e.u = x) (y - fl i) - ifv (e.v = x) (y - fl i)) := esum_upd fl x i y E 0 e (Nat.zero_le _) (by simpa using he)
/-- a sum over places -/
def rsum : Nat → (Nat → Int) → Int
  | 0, _ => 0
  | n + 1, f => rsum n f + f n
theorem rsum_congr {f g : Nat → Int} : ∀ n, (∀ x, x < n → f x = g x) → rsum n f = rsum n g
  | 0, _ => rfl
  | n + 1, h => by simp only [rsum]; rw [rsum_congr n (fun x hx => h x (by omega)), h n (by omega)]
theorem rsum_zero : ∀ (n : Nat) (f : Nat → Int), (∀ x, x < n → f x = 0) → rsum n f = 0
  | 0, _, _ => rfl
  | n + 1, f, h => by simp only [rsum]; rw [rsum_zero n f (fun x hx => h x (by omega)), h n (by omega)]; rfl
theorem rsum_only : ∀ (n : Nat) (f : Nat → Int) (a : Nat), a < n → (∀ x, x < n → x ≠ a → f x = 0) → rsum n f = f a
  | n + 1, f, a, ha, h => by
    simp only [rsum]
    by_cases hn : a = n
    · subst hn
      rw [rsum_zero a f (fun x hx => h x (by omega) (by omega))]; omega
    · rw [rsum_only n f a (by omega) (fun x hx hne => h x (by omega) hne), h n (by omega) (fun e => hn e.symm)]; omega
theorem rsum_add (f g : Nat → Int) : ∀ n, rsum n (fun x => f x + g x) = rsum n f + rsum n g
  | 0 => rfl
  | n + 1 => by simp only [rsum]; rw [rsum_add f g n]; omega
theorem rsum_esum (g : Nat → Nat → NE → Int) (n : Nat) : ∀ (E : List NE) (k : Nat), rsum n (fun x => esum (g x) E k) = esum (fun i e => rsum n (fun x => g x i e)) E k
  | [], _ => rsum_zero n _ (fun _ _ => rfl)
  | e :: r, k => by
    simp only [esum]
    rw [rsum_add, rsum_esum g n r (k + 1)]
/-- a flow -/
structure FlowOk (E : List NE) (n s t : Nat) (fl : Nat → Int) (sum : Int) : Prop where
  bd : ∀ i e, E[i]? = some e → 0 ≤ fl i ∧ fl i ≤ e.c
  cons : ∀ x, x < n → x ≠ s → x ≠ t → outv fl E x = 0
  val : outv fl E s = sum
/-- the room of a set's edges outwards -/
def roomS (E : List NE) (S : Nat → Bool) : Int := esum (fun _ e => ifv (S e.u = true ∧ S e.v = false) e.c) E 0
theorem flow_set {E : List NE} {n s t : Nat} {fl : Nat → Int} {sum : Int} (hE : ∀ e ∈ E, e.u < n ∧ e.v < n) (hf : FlowOk E n s t fl sum) (hs : s < n) (S : Nat → Bool) (h1 : S s = true) (h2 : S t = false) :
    sum = esum (fun i e => ifv (S e.u = true) (fl i) - ifv (S e.v = true) (fl i)) E 0 := by
  have h3 : rsum n (fun x => ifv (S x = true) (outv fl E x)) = sum := by
    rw [rsum_only n _ s hs (fun x hx hne => by
      by_cases hxt : x = t
      · subst hxt; exact ifv_f _ (by rw [h2]; simp)
      · unfold ifv; rw [hf.cons x hx hne hxt]; split <;> rfl), ifv_t _ h1, hf.val]
  rw [← h3]
  have h4 : rsum n (fun x => ifv (S x = true) (outv fl E x)) = rsum n (fun x => esum (fun i e => ifv (S x = true) (ov fl x i e)) E 0) := rsum_congr n (fun x _ => by
    by_cases hx : S x = true
    · rw [ifv_t _ hx]; exact esum_congr E 0 (fun i e _ => (ifv_t _ hx).symm)
    · rw [ifv_f _ hx, esum_congr (h := fun _ _ => 0) E 0 (fun i e _ => ifv_f _ hx), esum_const]; simp)
  rw [h4, rsum_esum]
  refine esum_congr E 0 (fun i e he => ?_)
  simp only [Nat.zero_add]
  have hm := hE e (List.mem_of_getElem? he)
  have : (fun x => ifv (S x = true) (ov fl x i e)) = fun x => ifv (S x = true ∧ e.u = x) (fl i) + -(ifv (S x = true ∧ e.v = x) (fl i)) := by
    funext x
    unfold ov ifv
    by_cases hx : S x = true <;> simp [hx]
    omega
  rw [this, rsum_add]
  have r1 : rsum n (fun x => ifv (S x = true ∧ e.u = x) (fl i)) = ifv (S e.u = true) (fl i) := by
    rw [rsum_only n _ e.u hm.1 (fun x _ hne => ifv_f _ (fun hc => hne hc.2.symm))]
    simp [ifv]
  have r2 : rsum n (fun x => -(ifv (S x = true ∧ e.v = x) (fl i))) = -(ifv (S e.v = true) (fl i)) := by
    rw [rsum_only n _ e.v hm.2 (fun x _ hne => by rw [ifv_f _ (fun hc => hne hc.2.symm)]; rfl)]
    simp [ifv]
  rw [r1, r2]
  omega
/-- no flow is greater than a cut -/
theorem flow_each {E : List NE} {n s t : Nat} {fl : Nat → Int} {sum : Int} (hf : FlowOk E n s t fl sum) (S : Nat → Bool) : ∀ i e, E[i]? = some e → ifv (S e.u = true) (fl (0 + i)) - ifv (S e.v = true) (fl (0 + i)) ≤ ifv (S e.u = true ∧ S e.v = false) e.c := by
  intro i e he
  have := hf.bd i e he
  rw [Nat.zero_add]
  unfold ifv
  cases S e.u <;> cases S e.v <;> simp <;> omega
theorem flow_le {E : List NE} {n s t : Nat} {fl : Nat → Int} {sum : Int} (hE : ∀ e ∈ E, e.u < n ∧ e.v < n) (hf : FlowOk E n s t fl sum) (hs : s < n) (S : Nat → Bool) (h1 : S s = true) (h2 : S t = false) : sum ≤ roomS E S := by
  rw [flow_set hE hf hs S h1 h2]
  exact esum_le E 0 (flow_each hf S)
/-- the two ways over each edge, with what is free on each -/
def arcs (fl : Nat → Int) : List NE → Nat → List NE
  | [], _ => []
  | e :: r, k => ⟨e.u, e.v, e.c - fl k⟩ :: ⟨e.v, e.u, fl k⟩ :: arcs fl r (k + 1)
def posA (e : NE) : Bool := decide (0 < e.c)
theorem arcs_mem {fl : Nat → Int} {a : NE} : ∀ {E : List NE} {k : Nat}, a ∈ arcs fl E k ↔ ∃ i e, E[i]? = some e ∧ (a = ⟨e.u, e.v, e.c - fl (k + i)⟩ ∨ a = ⟨e.v, e.u, fl (k + i)⟩)
  | [], k => by simp [arcs]
  | x :: r, k => by
    simp only [arcs, List.mem_cons]
    rw [arcs_mem (E := r)]
    constructor
    · rintro (h | h | ⟨i, e, h1, h2⟩)
      · exact ⟨0, x, rfl, .inl (by simpa using h)⟩
      · exact ⟨0, x, rfl, .inr (by simpa using h)⟩
      · exact ⟨i + 1, e, by simpa using h1, by rwa [show k + (i + 1) = k + 1 + i by omega]⟩
    · rintro ⟨i, e, h1, h2⟩
      cases i with
      | zero =>
        simp at h1
        subst h1
        rw [Nat.add_zero] at h2
        rcases h2 with h2 | h2
        · exact .inl h2
        · exact .inr (.inl h2)
      | succ i => exact .inr (.inr ⟨i, e, by simpa using h1, by rwa [show k + (i + 1) = k + 1 + i by omega] at h2⟩)
theorem arcs_lt {fl : Nat → Int} {E : List NE} {n : Nat} (hE : ∀ e ∈ E, e.u < n ∧ e.v < n) : ∀ a ∈ arcs fl E 0, a.u < n ∧ a.v < n := by
  intro a ha
  obtain ⟨i, e, h1, h2⟩ := arcs_mem.1 ha
  have := hE e (List.mem_of_getElem? h1)
  rcases h2 with rfl | rfl
  · exact this
  · exact ⟨this.2, this.1⟩
/-- a set is shut: nothing free leads out -/
def ShutS (fl : Nat → Int) (E : List NE) (S : Nat → Bool) : Prop := ∀ i e, E[i]? = some e → (S e.u = true → fl i < e.c → S e.v = true) ∧ (S e.v = true → 0 < fl i → S e.u = true)
theorem shut_lead {fl : Nat → Int} {E : List NE} {S : Nat → Bool} {s v : Nat} (h : ShutS fl E S) (hs : S s = true) (hl : Lead (arcs fl E 0) posA s v) : S v = true := by
  induction hl with
  | refl => exact hs
  | step a hl ha hp ih =>
    obtain ⟨i, e, h1, h2⟩ := arcs_mem.1 ha
    simp only [posA, decide_eq_true_eq] at hp
    rw [Nat.zero_add] at h2
    rcases h2 with rfl | rfl
    · exact (h i e h1).1 ih (by simp only at hp; omega)
    · exact (h i e h1).2 ih hp
theorem lead_shut {fl : Nat → Int} {E : List NE} {s : Nat} (S : Nat → Bool) (hS : ∀ e ∈ E, (S e.u = true ↔ Lead (arcs fl E 0) posA s e.u) ∧ (S e.v = true ↔ Lead (arcs fl E 0) posA s e.v)) : ShutS fl E S := by
  intro i e he
  have hm := hS e (List.mem_of_getElem? he)
  refine ⟨fun h1 h2 => ?_, fun h1 h2 => ?_⟩
  · refine hm.2.2 (Lead.step ⟨e.u, e.v, e.c - fl (0 + i)⟩ (hm.1.1 h1) (arcs_mem.2 ⟨i, e, he, .inl rfl⟩) ?_)
    simp only [posA, Nat.zero_add, decide_eq_true_eq]; omega
  · refine hm.1.2 (Lead.step ⟨e.v, e.u, fl (0 + i)⟩ (hm.2.1 h1) (arcs_mem.2 ⟨i, e, he, .inr rfl⟩) ?_)
    simp only [posA, Nat.zero_add, decide_eq_true_eq]; omega
/-- a flow as great as a cut's room leaves nothing free out of it, and the other way round -/
theorem flow_eq {E : List NE} {n s t : Nat} {fl : Nat → Int} {sum : Int} (hE : ∀ e ∈ E, e.u < n ∧ e.v < n) (hf : FlowOk E n s t fl sum) (hs : s < n) (S : Nat → Bool) (h1 : S s = true) (h2 : S t = false) : sum = roomS E S ↔ ShutS fl E S := by
  rw [flow_set hE hf hs S h1 h2]
  constructor
  · intro h i e he
    have h3 := esum_eq_each E 0 (flow_each hf S) h i e he
    have h4 := hf.bd i e he
    rw [Nat.zero_add] at h3
    unfold ifv at h3
    cases hu : S e.u <;> cases hv : S e.v <;> simp [hu, hv] at h3 ⊢ <;> omega
  · intro h
    refine esum_congr E 0 (fun i e he => ?_)
    have h3 := h i e he
    have h4 := hf.bd i e he
    rw [Nat.zero_add]
    unfold ifv
    cases hu : S e.u <;> cases hv : S e.v <;> simp [hu, hv] at h3 ⊢ <;> omega
/-- it is bounded -/
theorem flow_bound {E : List NE} {n s t : Nat} {fl : Nat → Int} {sum : Int} (hf : FlowOk E n s t fl sum) (hc : ∀ e ∈ E, e.c ≤ 10000) : sum ≤ 10000 * (E.length : Int) := by
  rw [← hf.val, ← esum_const (c := 10000) E 0]
  refine esum_le E 0 (fun i e he => ?_)
  have h1 := hf.bd i e he
  have h2 := hc e (List.mem_of_getElem? he)
  rw [Nat.zero_add]
  unfold ov ifv
  split <;> split <;> omega
theorem flow_zero (E : List NE) (n s t : Nat) (hc : ∀ e ∈ E, 0 ≤ e.c) : FlowOk E n s t (fun _ => 0) 0 := by
  have h0 : ∀ x, outv (fun _ => 0) E x = 0 := fun x => by
    unfold outv
    rw [esum_congr (h := fun _ _ => 0) E 0 (fun i e _ => by unfold ov ifv; split <;> split <;> rfl), esum_const]; simp
  exact ⟨fun i e he => ⟨Int.le_refl _, hc e (List.mem_of_getElem? he)⟩, fun x _ _ _ => h0 x, h0 s⟩

/-! seek: breadth first -/
/-- p is where x was come to from -/
def Par (fl : Nat → Int) (E : List NE) (by_ : Nat → Int) (p x : Nat) : Prop :=
  (∃ (i : Nat) (e : NE), E[i]? = some e ∧ by_ x = (i : Int) ∧ e.u = p ∧ e.v = x ∧ fl i < e.c) ∨ (∃ (i : Nat) (e : NE), E[i]? = some e ∧ by_ x = -1 - (i : Int) ∧ e.v = p ∧ e.u = x ∧ 0 < fl i)
structure QT (fl : Nat → Int) (E : List NE) (n s : Nat) (by_ : Nat → Int) (O : List Nat) : Prop where
  nd : O.Nodup
  lt : ∀ x ∈ O, x < n
  src : s ∈ O
  non : ∀ x, x ∉ O ∨ x = s → by_ x = (E.length : Int)
  par : ∃ rk : Nat → Nat, ∀ x ∈ O, rk x < O.length ∧ (x ≠ s → ∃ p ∈ O, Par fl E by_ p x ∧ rk p < rk x)
theorem qt_start (fl : Nat → Int) (E : List NE) {n s : Nat} (hs : s < n) : QT fl E n s (fun _ => (E.length : Int)) [s] :=
  ⟨by simp, fun x hx => by simp at hx; subst hx; exact hs, by simp, fun _ _ => rfl, fun _ => 0, fun x hx => by simp at hx; subst hx; exact ⟨by simp, fun h => absurd rfl h⟩⟩
theorem qt_add {fl : Nat → Int} {E : List NE} {n s : Nat} {by_ : Nat → Int} {O : List Nat} (h : QT fl E n s by_ O) {p x : Nat} {k : Int} (hp : p ∈ O) (hx : x ∉ O) (hxn : x < n) (hpar : Par fl E (upz by_ x k) p x) : QT fl E n s (upz by_ x k) (O ++ [x]) := by
  obtain ⟨rk, hrk⟩ := h.par
  have hsx : s ≠ x := fun e => hx (e ▸ h.src)
  refine ⟨?_, ?_, by simp [h.src], ?_, ⟨fun y => if y = x then O.length else rk y, ?_⟩⟩
  · rw [List.nodup_append]
    refine ⟨h.nd, by simp, fun a ha b hb e => ?_⟩
    simp at hb; subst hb; subst e; exact hx ha
  · intro y hy
    rcases List.mem_append.1 hy with h1 | h1
    · exact h.lt y h1
    · simp at h1; subst h1; exact hxn
  · intro y hy
    have hyx : y ≠ x := by
      rintro rfl
      rcases hy with hy | hy
      · exact hy (by simp)
      · exact hsx hy.symm
    rw [upz_other _ _ hyx]
    exact h.non y (hy.imp (fun h1 h2 => h1 (by simp [h2])) id)
  · intro y hy
    simp only [List.length_append, List.length_cons, List.length_nil]
    by_cases hyx : y = x
    · subst hyx
      have hpy : p ≠ y := fun e => hx (e ▸ hp)
      refine ⟨by simp, fun _ => ⟨p, by simp [hp], hpar, ?_⟩⟩
      simp only [if_pos, if_neg hpy]
      exact (hrk p hp).1
    · have hyO : y ∈ O := by
        rcases List.mem_append.1 hy with h1 | h1
        · exact h1
        · simp at h1; exact absurd h1 hyx
      obtain ⟨h1, h2⟩ := hrk y hyO
      rw [if_neg hyx]
      refine ⟨by omega, fun hne => ?_⟩
      obtain ⟨q, q1, q2, q3⟩ := h2 hne
      have hqx : q ≠ x := fun e => hx (e ▸ q1)
      refine ⟨q, by simp [q1], ?_, by rw [if_neg hqx]; exact q3⟩
      unfold Par
      rw [upz_other _ _ hyx]
      exact q2
/-- what leads from v over the first j edges is come to -/
def QC (fl : Nat → Int) (E : List NE) (O : List Nat) (v j : Nat) : Prop := ∀ i e, i < j → E[i]? = some e → (e.u = v → fl i < e.c → e.v ∈ O) ∧ (e.v = v → 0 < fl i → e.u ∈ O)
theorem qc_zero (fl : Nat → Int) (E : List NE) (O : List Nat) (v : Nat) : QC fl E O v 0 := fun i e hi => by omega
theorem qc_mono {fl : Nat → Int} {E : List NE} {O : List Nat} {v j : Nat} (h : QC fl E O v j) (L : List Nat) : QC fl E (O ++ L) v j := fun i e hi he => ⟨fun a b => List.mem_append.2 (.inl ((h i e hi he).1 a b)), fun a b => List.mem_append.2 (.inl ((h i e hi he).2 a b))⟩
theorem qc_step {fl : Nat → Int} {E : List NE} {O : List Nat} {v j : Nat} (h : QC fl E O v j) {e : NE} (he : E[j]? = some e) (h1 : e.u = v → fl j < e.c → e.v ∈ O) (h2 : e.v = v → 0 < fl j → e.u ∈ O) : QC fl E O v (j + 1) := by
  intro i e' hi he'
  rcases Nat.lt_or_ge i j with hij | hij
  · exact h i e' hij he'
  · obtain rfl : i = j := by omega
    rw [he] at he'
    cases he'
    exact ⟨h1, h2⟩
/-- what seek answers -/
def SeekAns (fl : Nat → Int) (E : List NE) (n s : Nat) (b : Nat → Int) : Prop := ∃ by_ O, QT fl E n s by_ O ∧ (∀ v ∈ O, QC fl E O v E.length) ∧ b = upz by_ s ((E.length : Int) + 1)
theorem par_lead {fl : Nat → Int} {E : List NE} {by_ : Nat → Int} {s p x : Nat} (h : Par fl E by_ p x) (hp : Lead (arcs fl E 0) posA s p) : Lead (arcs fl E 0) posA s x := by
  rcases h with ⟨i, e, h1, h2, h3, h4, h5⟩ | ⟨i, e, h1, h2, h3, h4, h5⟩
  · subst h3; subst h4
    exact Lead.step ⟨e.u, e.v, e.c - fl (0 + i)⟩ hp (arcs_mem.2 ⟨i, e, h1, .inl rfl⟩) (by simp only [posA, Nat.zero_add, decide_eq_true_eq]; omega)
  · subst h3; subst h4
    exact Lead.step ⟨e.v, e.u, fl (0 + i)⟩ hp (arcs_mem.2 ⟨i, e, h1, .inr rfl⟩) (by simp only [posA, Nat.zero_add, decide_eq_true_eq]; omega)
theorem par_ne {fl : Nat → Int} {E : List NE} {by_ : Nat → Int} {p x : Nat} (h : Par fl E by_ p x) : by_ x ≠ (E.length : Int) := by
  rcases h with ⟨i, e, h1, h2, h3, h4, h5⟩ | ⟨i, e, h1, h2, h3, h4, h5⟩
  · have := (List.getElem?_eq_some_iff.1 h1).1
    omega
  · omega
theorem qt_lead {fl : Nat → Int} {E : List NE} {n s : Nat} {by_ : Nat → Int} {O : List Nat} (h : QT fl E n s by_ O) : ∀ x ∈ O, Lead (arcs fl E 0) posA s x := by
  obtain ⟨rk, hrk⟩ := h.par
  have key : ∀ k x, x ∈ O → rk x ≤ k → Lead (arcs fl E 0) posA s x := by
    intro k
    induction k with
    | zero =>
      intro x hx hk
      by_cases hxs : x = s
      · subst hxs; exact Lead.refl
      · obtain ⟨p, p1, p2, p3⟩ := (hrk x hx).2 hxs; omega
    | succ k ih =>
      intro x hx hk
      by_cases hxs : x = s
      · subst hxs; exact Lead.refl
      · obtain ⟨p, p1, p2, p3⟩ := (hrk x hx).2 hxs
        exact par_lead p2 (ih p p1 (by omega))
  exact fun x hx => key _ x hx (Nat.le_refl _)
theorem seek_lead {fl : Nat → Int} {E : List NE} {n s : Nat} {b : Nat → Int} (h : SeekAns fl E n s b) (v : Nat) : b v ≠ (E.length : Int) ↔ Lead (arcs fl E 0) posA s v := by
  obtain ⟨by_, O, hq, hc, rfl⟩ := h
  have hO : v ∈ O ↔ Lead (arcs fl E 0) posA s v := by
    constructor
    · exact qt_lead hq v
    · intro hl
      have hsh : ShutS fl E (fun x => decide (x ∈ O)) := by
        intro i e he
        have hi := (List.getElem?_eq_some_iff.1 he).1
        refine ⟨fun h1 h2 => ?_, fun h1 h2 => ?_⟩
        · simp only [decide_eq_true_eq] at h1 ⊢
          exact ((hc _ h1) i e hi he).1 rfl h2
        · simp only [decide_eq_true_eq] at h1 ⊢
          exact ((hc _ h1) i e hi he).2 rfl h2
      have := shut_lead hsh (s := s) (by simp [hq.src]) hl
      simpa using this
  rw [← hO]
  by_cases hvs : v = s
  · subst hvs
    rw [upz_same]
    exact ⟨fun _ => hq.src, fun _ => by omega⟩
  · rw [upz_other _ _ hvs]
    constructor
    · intro h1
      exact Classical.byContradiction fun h2 => h1 (hq.non v (.inl h2))
    · intro h1
      obtain ⟨rk, hrk⟩ := hq.par
      obtain ⟨p, p1, p2, p3⟩ := (hrk v h1).2 hvs
      exact par_ne p2

/-! push: along the way back -/
def eix (b : Int) : Nat := if 0 ≤ b then b.toNat else (-1 - b).toNat
/-- what is free on the step to x -/
def resA (fl : Nat → Int) (E : List NE) (b : Int) : Int := if 0 ≤ b then (match E[eix b]? with | some e => e.c - fl (eix b) | none => 0) else fl (eix b)
/-- the way back -/
inductive PC (fl : Nat → Int) (E : List NE) (by_ : Nat → Int) (s : Nat) : Nat → List Nat → Prop
  | nil : PC fl E by_ s s []
  | cons (x p : Nat) (l : List Nat) (hx : x ≠ s) (hp : Par fl E by_ p x) (h : PC fl E by_ s p l) : PC fl E by_ s x (x :: l)
theorem par_eix {fl : Nat → Int} {E : List NE} {by_ : Nat → Int} {p x : Nat} (h : Par fl E by_ p x) : ∃ e, E[eix (by_ x)]? = some e ∧ 0 < resA fl E (by_ x) ∧ ((0 ≤ by_ x ∧ by_ x = (eix (by_ x) : Int) ∧ e.u = p ∧ e.v = x) ∨ (by_ x < 0 ∧ by_ x = -1 - (eix (by_ x) : Int) ∧ e.v = p ∧ e.u = x)) := by
  rcases h with ⟨i, e, h1, h2, h3, h4, h5⟩ | ⟨i, e, h1, h2, h3, h4, h5⟩
  · have hi : eix (by_ x) = i := by unfold eix; rw [if_pos (by omega)]; omega
    refine ⟨e, by rw [hi]; exact h1, ?_, .inl ⟨by omega, by rw [hi]; exact h2, h3, h4⟩⟩
    unfold resA
    rw [if_pos (by omega), hi, h1]
    simp only
    omega
  · have hi : eix (by_ x) = i := by unfold eix; rw [if_neg (by omega)]; omega
    refine ⟨e, by rw [hi]; exact h1, ?_, .inr ⟨by omega, by rw [hi]; exact h2, h3, h4⟩⟩
    unfold resA
    rw [if_neg (by omega), hi]
    exact h5
theorem par_apart {fl : Nat → Int} {E : List NE} {by_ : Nat → Int} {rk : Nat → Nat} {p x q y : Nat} (h : Par fl E by_ p x) (k : Par fl E by_ q y) (hp : rk p < rk x) (hq : rk q < rk y) (hxy : x ≠ y) : eix (by_ x) ≠ eix (by_ y) := by
  intro he
  obtain ⟨e, e1, _, e2⟩ := par_eix h
  obtain ⟨f, f1, _, f2⟩ := par_eix k
  rw [← he, e1] at f1
  cases f1
  rcases e2 with ⟨_, _, a1, a2⟩ | ⟨_, _, a1, a2⟩ <;> rcases f2 with ⟨_, _, b1, b2⟩ | ⟨_, _, b1, b2⟩
  · exact hxy (a2.symm.trans b2)
  · rw [a1] at b2; rw [a2] at b1; subst b1; subst b2; omega
  · rw [a1] at b2; rw [a2] at b1; subst b1; subst b2; omega
  · exact hxy (a2.symm.trans b2)
/-- steps on different edges -/
def Diff (by_ : Nat → Int) (l : List Nat) : Prop := l.Pairwise fun x y => eix (by_ x) ≠ eix (by_ y)
theorem qt_chain {fl : Nat → Int} {E : List NE} {n s : Nat} {by_ : Nat → Int} {O : List Nat} (h : QT fl E n s by_ O) {v : Nat} (hv : v ∈ O) : ∃ l, PC fl E by_ s v l ∧ Diff by_ l ∧ l.length ≤ n := by
  obtain ⟨rk, hrk⟩ := h.par
  have hOn : O.length ≤ n := by
    have := List.Nodup.length_le_of_subset (l₁ := O) (l₂ := List.range n) h.nd (fun x hx => List.mem_range.2 (h.lt x hx))
    simpa using this
  have key : ∀ k x, x ∈ O → rk x ≤ k → ∃ l, PC fl E by_ s x l ∧ Diff by_ l ∧ l.length ≤ rk x + 1 ∧ ∀ y ∈ l, rk y ≤ rk x ∧ ∃ q, Par fl E by_ q y ∧ rk q < rk y := by
    intro k
    induction k with
    | zero =>
      intro x hx hk
      by_cases hxs : x = s
      · subst hxs; exact ⟨[], .nil, List.Pairwise.nil, by simp, fun y hy => by cases hy⟩
      · obtain ⟨p, p1, p2, p3⟩ := (hrk x hx).2 hxs; omega
    | succ k ih =>
      intro x hx hk
      by_cases hxs : x = s
      · subst hxs; exact ⟨[], .nil, List.Pairwise.nil, by simp, fun y hy => by cases hy⟩
      · obtain ⟨p, p1, p2, p3⟩ := (hrk x hx).2 hxs
        obtain ⟨l, l1, l2, l3, l4⟩ := ih p p1 (by omega)
        refine ⟨x :: l, .cons x p l hxs p2 l1, List.Pairwise.cons (fun y hy => ?_) l2, by simp; omega, fun y hy => ?_⟩
        · obtain ⟨m1, q, m2, m3⟩ := l4 y hy
          exact par_apart p2 m2 p3 m3 (fun e => by subst e; omega)
        · rcases List.mem_cons.1 hy with rfl | hy
          · exact ⟨Nat.le_refl _, p, p2, p3⟩
          · obtain ⟨m1, q⟩ := l4 y hy
            exact ⟨by omega, q⟩
  obtain ⟨l, l1, l2, l3, l4⟩ := key _ v hv (Nat.le_refl _)
  exact ⟨l, l1, l2, by have := (hrk v hv).1; omega⟩
def mostA (fl : Nat → Int) (E : List NE) (by_ : Nat → Int) (l : List Nat) (m : Int) : Int := l.foldl (fun m x => min m (resA fl E (by_ x))) m
theorem most_le (fl : Nat → Int) (E : List NE) (by_ : Nat → Int) : ∀ (l : List Nat) (m : Int), mostA fl E by_ l m ≤ m ∧ ∀ x ∈ l, mostA fl E by_ l m ≤ resA fl E (by_ x)
  | [], m => ⟨Int.le_refl _, fun x hx => by cases hx⟩
  | y :: r, m => by
    obtain ⟨h1, h2⟩ := most_le fl E by_ r (min m (resA fl E (by_ y)))
    have e : mostA fl E by_ (y :: r) m = mostA fl E by_ r (min m (resA fl E (by_ y))) := rfl
    rw [e]
    refine ⟨by omega, fun x hx => ?_⟩
    rcases List.mem_cons.1 hx with rfl | hx
    · omega
    · exact h2 x hx
theorem most_pos {fl : Nat → Int} {E : List NE} {by_ : Nat → Int} : ∀ {l : List Nat} {m : Int}, 0 < m → (∀ x ∈ l, 0 < resA fl E (by_ x)) → 0 < mostA fl E by_ l m
  | [], m, h, _ => h
  | y :: r, m, h, hr => by
    have e : mostA fl E by_ (y :: r) m = mostA fl E by_ r (min m (resA fl E (by_ y))) := rfl
    rw [e]
    have := hr y (by simp)
    exact most_pos (l := r) (by omega) (fun x hx => hr x (by simp [hx]))
theorem pc_res {fl : Nat → Int} {E : List NE} {by_ : Nat → Int} {s v : Nat} {l : List Nat} (h : PC fl E by_ s v l) : ∀ x ∈ l, 0 < resA fl E (by_ x) := by
  induction h with
  | nil => intro x hx; cases hx
  | cons x p l hx hp h ih =>
    intro y hy
    rcases List.mem_cons.1 hy with rfl | hy
    · obtain ⟨e, _, h2, _⟩ := par_eix hp; exact h2
    · exact ih y hy
/-- one step's edge -/
def pushE (by_ : Nat → Int) (m : Int) (fl : Nat → Int) (x : Nat) : Nat → Int := if 0 ≤ by_ x then upz fl (eix (by_ x)) (fl (eix (by_ x)) + m) else upz fl (eix (by_ x)) (fl (eix (by_ x)) - m)
/-- while it is pushed: what holds -/
structure PMid (E : List NE) (n s t : Nat) (fl0 : Nat → Int) (sum : Int) (by_ : Nat → Int) (m : Int) (v : Nat) (l : List Nat) (fl : Nat → Int) : Prop where
  pc : PC fl0 E by_ s v l
  df : Diff by_ l
  le : ∀ x ∈ l, m ≤ resA fl0 E (by_ x)
  same : ∀ x ∈ l, fl (eix (by_ x)) = fl0 (eix (by_ x))
  bd : ∀ i e, E[i]? = some e → 0 ≤ fl i ∧ fl i ≤ e.c
  out : ∀ x, outv fl E x = outv fl0 E x + ifv (x = v) m - ifv (x = t) m
theorem pmid_step {E : List NE} {n s t : Nat} {fl0 : Nat → Int} {sum : Int} {by_ : Nat → Int} {m : Int} {v : Nat} {x : Nat} {l : List Nat} {fl : Nat → Int} (h : PMid E n s t fl0 sum by_ m v (x :: l) fl) (hm : 0 ≤ m) :
    x = v ∧ ∃ p, Par fl0 E by_ p v ∧ v ≠ s ∧ PMid E n s t fl0 sum by_ m p l (pushE by_ m fl v) := by
  obtain ⟨hpc, hdf, hle, hsame, hbd, hout⟩ := h
  cases hpc with
  | cons _ p _ hx hp hpc =>
    refine ⟨rfl, p, hp, hx, hpc, (List.pairwise_cons.1 hdf).2, fun y hy => hle y (by simp [hy]), ?_, ?_, ?_⟩
    · intro y hy
      have hne := (List.pairwise_cons.1 hdf).1 y hy
      have : pushE by_ m fl v (eix (by_ y)) = fl (eix (by_ y)) := by
        unfold pushE
        split <;> exact upz_other _ _ (fun e => hne e.symm)
      rw [this]
      exact hsame y (by simp [hy])
    · intro i e he
      obtain ⟨e', g1, g2, g3⟩ := par_eix hp
      have hres := hle v (by simp)
      have hsm := hsame v (by simp)
      by_cases hi : i = eix (by_ v)
      · subst hi
        rw [he] at g1
        cases g1
        have hb := hbd _ _ he
        unfold resA at hres
        rcases g3 with ⟨q1, q2, q3, q4⟩ | ⟨q1, q2, q3, q4⟩
        · rw [if_pos q1, he] at hres
          simp only at hres
          unfold pushE
          rw [if_pos q1, upz_same]
          omega
        · rw [if_neg (by omega)] at hres
          unfold pushE
          rw [if_neg (by omega), upz_same]
          omega
      · have : pushE by_ m fl v i = fl i := by
          unfold pushE
          split <;> exact upz_other _ _ hi
        rw [this]
        exact hbd i e he
    · intro y
      obtain ⟨e, g1, g2, g3⟩ := par_eix hp
      have ho := hout y
      unfold pushE
      rcases g3 with ⟨q1, q2, q3, q4⟩ | ⟨q1, q2, q3, q4⟩
      · rw [if_pos q1, outv_upd fl E y _ _ e g1, ho, q3, q4]
        unfold ifv
        split <;> split <;> split <;> (try split) <;> omega
      · rw [if_neg (by omega), outv_upd fl E y _ _ e g1, ho, q3, q4]
        unfold ifv
        split <;> split <;> split <;> (try split) <;> omega
theorem pmid_start {E : List NE} {n s t : Nat} {fl : Nat → Int} {sum : Int} {by_ : Nat → Int} {l : List Nat} (hf : FlowOk E n s t fl sum) (hpc : PC fl E by_ s t l) (hdf : Diff by_ l) {m : Int} (hm : ∀ x ∈ l, m ≤ resA fl E (by_ x)) : PMid E n s t fl sum by_ m t l fl :=
  ⟨hpc, hdf, hm, fun _ _ => rfl, hf.bd, fun x => by unfold ifv; split <;> omega⟩
theorem pmid_end {E : List NE} {n s t : Nat} {fl0 fl : Nat → Int} {sum : Int} {by_ : Nat → Int} {m : Int} (hf : FlowOk E n s t fl0 sum) (hst : s ≠ t) (h : PMid E n s t fl0 sum by_ m s [] fl) : FlowOk E n s t fl (sum + m) := by
  refine ⟨h.bd, fun x hx h1 h2 => ?_, ?_⟩
  · rw [h.out, hf.cons x hx h1 h2, ifv_f _ h1, ifv_f _ h2]; rfl
  · rw [h.out, hf.val, ifv_t _ rfl, ifv_f _ hst]; omega
theorem pc_nil {fl : Nat → Int} {E : List NE} {by_ : Nat → Int} {s v : Nat} (h : PC fl E by_ s v []) : v = s := by cases h; rfl
theorem pc_at {fl : Nat → Int} {E : List NE} {by_ : Nat → Int} {s : Nat} {l : List Nat} (h : PC fl E by_ s s l) : l = [] := by
  cases h with
  | nil => rfl
  | cons _ _ _ hx => exact absurd rfl hx
theorem pc_ne {fl : Nat → Int} {E : List NE} {by_ : Nat → Int} {s v : Nat} {l : List Nat} (h : PC fl E by_ s v l) (hv : v ≠ s) : ∃ p r, l = v :: r ∧ Par fl E by_ p v ∧ PC fl E by_ s p r := by
  cases h with
  | nil => exact absurd rfl hv
  | cons _ p r hx hp h => exact ⟨p, r, rfl, hp, h⟩
end Go.Proofs.Ytcehdpeeaogpiaa
