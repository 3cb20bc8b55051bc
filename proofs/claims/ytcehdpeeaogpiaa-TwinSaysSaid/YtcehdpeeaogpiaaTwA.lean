/-
  Several texts in one:
  Plain laws for two walks that share no edge: the search over free and used edges, and its potentials. No condition.
  Plain laws for two walks that share no edge: balances, and that right potentials make a choice of edges the cheapest. No condition.
  Plain laws for two walks that share no edge: walks as lists of edges, their balance; what is left over. No condition.
  Plain laws for two walks that share no edge: the cheapest of some edges between two places; sums over all pairs of places. No condition.
  Plain laws for two walks that share no edge: how often they step between two places. No condition.
  Plain laws for two walks that share no edge: what one search (carry) brings about. No condition.
  Plain laws for two walks that share no edge: following used edges; the reference's Two and CostTwo. No condition.
  Plain laws for two walks that share no edge: what the document says of them. No condition.
  Arcs in memory (twin): what a slice of them holds. No condition.
-/
import Derived.Test.YtcehdpeeaogpiaaSimP
import Derived.Test.YtcehdpeeaogpiaaTwP
import Derived.Test.YtcehdpeeaogpiaaYenL
import Derived.Test.YtcehdpeeaogpiaaBase
import Derived.Test.YtcehdpeeaogpiaaPlainB
/-! Plain laws for two walks that share no edge: the search over free and used edges, and its potentials. No condition. -/
namespace Go.Proofs.Ytcehdpeeaogpiaa
open Go.RowKit
set_option linter.unusedSimpArgs false
set_option linter.unusedVariables false
def eu (es : List Ed) (i : Nat) : Nat := (edN es i).u.toNat
def ev (es : List Ed) (i : Nat) : Nat := (edN es i).v.toNat
def ec (es : List Ed) (i : Nat) : Int := (edN es i).c
/-- arc number i: the edge, or, if it is used, the edge the other way -/
def arcN (es : List Ed) (U : Nat → Bool) (i : Nat) : NE := if U i = true then ⟨ev es i, eu es i, - ec es i⟩ else ⟨eu es i, ev es i, ec es i⟩
/-- what an arc costs beyond the fall of the potential -/
def rcA (π : Nat → Int) (a : NE) : Int := a.c + π a.u - π a.v
def Opt (es : List Ed) (π : Nat → Int) (U : Nat → Bool) : Prop := ∀ i, i < es.length → 0 ≤ rcA π (arcN es U i)
theorem opt_used {es : List Ed} {π : Nat → Int} {U : Nat → Bool} (h : Opt es π U) {i : Nat} (hi : i < es.length) : (U i = true → ec es i + π (eu es i) - π (ev es i) ≤ 0) ∧ (U i = false → 0 ≤ ec es i + π (eu es i) - π (ev es i)) := by
  have := h i hi
  unfold rcA arcN at this
  constructor
  · intro h1
    rw [if_pos h1] at this
    simp only at this
    omega
  · intro h1
    rw [if_neg (by simp [h1])] at this
    exact this
/-- the search: costs, the arc that each place was come to by, has something changed -/
structure TS where
  d : Nat → Int
  p : Nat → Int
  m : Bool
def Gives (A : Nat → NE) (d : Nat → Int) (k : Nat) : Prop := d (A k).u < FAR ∧ d (A k).u + (A k).c < d (A k).v
instance (A : Nat → NE) (d : Nat → Int) (k : Nat) : Decidable (Gives A d k) := by unfold Gives; infer_instance
def tstep (A : Nat → NE) (s : TS) (k : Nat) : TS := if Gives A s.d k then ⟨upz s.d (A k).v (s.d (A k).u + (A k).c), upz s.p (A k).v (k : Int), true⟩ else s
def tfold (A : Nat → NE) (s : TS) : Nat → TS
  | 0 => s
  | k + 1 => tstep A (tfold A s k) k
theorem tfold_quiet (A : Nat → NE) (s : TS) : ∀ k, (tfold A s k).m = false → tfold A s k = s ∧ ∀ j, j < k → ¬ Gives A s.d j
  | 0, _ => ⟨rfl, fun j hj => absurd hj (by omega)⟩
  | k + 1, h => by
    unfold tfold tstep at h ⊢
    by_cases hg : Gives A (tfold A s k).d k
    · rw [if_pos hg] at h; cases h
    · rw [if_neg hg] at h ⊢
      obtain ⟨h1, h2⟩ := tfold_quiet A s k h
      refine ⟨h1, fun j hj => ?_⟩
      rcases Nat.lt_or_ge j k with h3 | h3
      · exact h2 j h3
      · have : j = k := by omega
        subst this
        rw [h1] at hg
        exact hg
/-- the chain of arcs back to the start -/
inductive PCh (A : Nat → NE) (M : Nat) (p : Nat → Int) (f : Nat) : Nat → List Nat → Prop
  | top : PCh A M p f f []
  | step {v k : Nat} {l : List Nat} : v ≠ f → k < M → p v = (k : Int) → (A k).v = v → PCh A M p f (A k).u l → PCh A M p f v (k :: l)
/-- how many places are reached -/
def cntR (n : Nat) (d : Nat → Int) : Nat := (List.range n).countP (fun v => decide (d v < FAR))
/-- what holds while the search runs -/
structure TI (A : Nat → NE) (M n : Nat) (π : Nat → Int) (f : Nat) (s : TS) : Prop where
  f0 : s.d f = 0
  far : ∀ v, s.d v ≤ FAR
  low : ∀ v, s.d v < FAR → π v - π f ≤ s.d v
  up : ∀ v, s.d v < FAR → s.d v ≤ 10000 * (cntR n s.d : Int)
  prd : ∀ v, s.d v < FAR → v ≠ f → ∃ k, k < M ∧ s.p v = (k : Int) ∧ (A k).v = v ∧ s.d (A k).u < FAR ∧ s.d (A k).u + (A k).c ≤ s.d v
  chn : ∀ v, s.d v < FAR → ∃ l, PCh A M s.p f v l
section
variable {A : Nat → NE} {M n : Nat} {π : Nat → Int} {f : Nat} {s : TS}
/-- along a chain the places are no farther -/
theorem pch_low (hr : ∀ k, k < M → 0 ≤ rcA π (A k)) (h : TI A M n π f s) {v : Nat} {l : List Nat} (hc : PCh A M s.p f v l) : s.d v < FAR → ∀ k ∈ l, s.d (A k).u < FAR ∧ s.d (A k).u - π (A k).u ≤ s.d v - π v := by
  induction hc with
  | top => intro _ k hk; cases hk
  | @step v k l hv hk hp ha _ ih =>
    intro hF j hj
    obtain ⟨k', h1, h2, h3, h4, h5⟩ := h.prd v hF hv
    have hkk : k' = k := by rw [hp] at h2; omega
    subst hkk
    have hrc := hr k' hk
    unfold rcA at hrc
    rw [ha] at hrc
    rcases List.mem_cons.1 hj with rfl | hj
    · exact ⟨h4, by omega⟩
    · have := ih h4 j hj
      exact ⟨this.1, by omega⟩
theorem pch_keep {p : Nat → Int} {v0 : Nat} {k0 : Int} {w : Nat} {l : List Nat} (hc : PCh A M p f w l) : w ≠ v0 → (∀ k ∈ l, (A k).u ≠ v0) → PCh A M (upz p v0 k0) f w l := by
  induction hc with
  | top => intro _ _; exact .top
  | @step v k l hv hk hp ha _ ih =>
    intro h1 h2
    exact .step hv hk (by rw [upz_other _ _ h1]; exact hp) ha (ih (h2 k List.mem_cons_self) (fun j hj => h2 j (List.mem_cons_of_mem _ hj)))
theorem cntR_le (n : Nat) (d : Nat → Int) : cntR n d ≤ n := by
  have := List.countP_le_length (p := fun v => decide (d v < FAR)) (l := List.range n)
  rwa [List.length_range] at this
theorem cntR_new {d : Nat → Int} {v0 : Nat} {x : Int} (hv : v0 < n) (h : FAR ≤ d v0) (hx : x < FAR) : cntR n d + 1 ≤ cntR n (upz d v0 x) := by
  unfold cntR
  refine count_lt (fun v hv h1 => ?_) ⟨v0, List.mem_range.2 hv, ?_, ?_⟩
  · by_cases e : v = v0
    · subst e; rw [upz_same]; simpa using hx
    · rw [upz_other _ _ e]; exact h1
  · rw [upz_same]; simpa using hx
  · simp; omega
theorem cntR_old {d : Nat → Int} {v0 : Nat} {x : Int} (hx : x < FAR) : cntR n d ≤ cntR n (upz d v0 x) := by
  unfold cntR
  refine count_le (fun v hv h1 => ?_)
  by_cases e : v = v0
  · subst e; rw [upz_same]; simpa using hx
  · rw [upz_other _ _ e]; exact h1
theorem ti_step (hr : ∀ k, k < M → 0 ≤ rcA π (A k)) (hb : ∀ k, k < M → (A k).u < n ∧ (A k).v < n ∧ (A k).c ≤ 10000) (h : TI A M n π f s) {k : Nat} (hk : k < M) : TI A M n π f (tstep A s k) := by
  unfold tstep
  by_cases hg : Gives A s.d k
  · rw [if_pos hg]
    obtain ⟨g1, g2⟩ := hg
    have hrc := hr k hk
    unfold rcA at hrc
    have hbk := hb k hk
    have hlu := h.low _ g1
    have hfv := h.far (A k).v
    have hvf : (A k).v ≠ f := by
      intro e
      rw [e] at g2 hrc
      rw [h.f0] at g2
      omega
    have huv : (A k).u ≠ (A k).v := by
      intro e
      rw [e] at g2 hrc
      omega
    have hup := h.up _ g1
    have hold := cntR_old (n := n) (d := s.d) (v0 := (A k).v) (x := s.d (A k).u + (A k).c) (by omega)
    -- the chain of where it comes from does not come to this place
    obtain ⟨lu, hcu⟩ := h.chn _ g1
    have hav := pch_low hr h hcu g1
    have hcu2 : PCh A M (upz s.p (A k).v (k : Int)) f (A k).u lu := pch_keep hcu huv (fun j hj e => by
      have := (hav j hj).2
      rw [e] at this
      omega)
    have hcv : PCh A M (upz s.p (A k).v (k : Int)) f (A k).v (k :: lu) := .step hvf hk (upz_same _ _ _) rfl hcu2
    refine ⟨by simp only; rw [upz_other _ _ hvf.symm]; exact h.f0, fun v => ?_, fun v hv => ?_, fun v hv => ?_, fun v hv hne => ?_, fun v hv => ?_⟩
    · simp only
      by_cases e : v = (A k).v
      · subst e; rw [upz_same]; omega
      · rw [upz_other _ _ e]; exact h.far v
    · simp only at hv ⊢
      by_cases e : v = (A k).v
      · subst e; rw [upz_same]; omega
      · rw [upz_other _ _ e] at hv ⊢; exact h.low v hv
    · simp only at hv ⊢
      by_cases e : v = (A k).v
      · subst e
        rw [upz_same]
        rcases Int.lt_or_le (s.d (A k).v) FAR with hF | hF
        · have := h.up _ hF
          omega
        · have := cntR_new (n := n) (d := s.d) (x := s.d (A k).u + (A k).c) hbk.2.1 hF (by omega)
          omega
      · rw [upz_other _ _ e] at hv ⊢
        have := h.up v hv
        omega
    · simp only at hv ⊢
      by_cases e : v = (A k).v
      · subst e
        refine ⟨k, hk, upz_same _ _ _, rfl, ?_, ?_⟩
        · rw [upz_other _ _ huv]; exact g1
        · rw [upz_other _ _ huv, upz_same]; exact Int.le_refl _
      · rw [upz_other _ _ e] at hv
        obtain ⟨j, j1, j2, j3, j4, j5⟩ := h.prd v hv hne
        refine ⟨j, j1, by rw [upz_other _ _ e]; exact j2, j3, ?_, ?_⟩
        · by_cases e2 : (A j).u = (A k).v
          · rw [e2, upz_same]; omega
          · rw [upz_other _ _ e2]; exact j4
        · rw [upz_other _ _ e]
          by_cases e2 : (A j).u = (A k).v
          · rw [e2] at j5 ⊢; rw [upz_same]; omega
          · rw [upz_other _ _ e2]; exact j5
    · simp only at hv ⊢
      have key : ∀ {x : Nat} {l : List Nat}, PCh A M s.p f x l → ∃ l', PCh A M (upz s.p (A k).v (k : Int)) f x l' := by
        intro x l hc
        induction hc with
        | top => exact ⟨[], .top⟩
        | @step x j l hx hj hp ha _ ih =>
          by_cases e : x = (A k).v
          · subst e; exact ⟨_, hcv⟩
          · obtain ⟨l', hl'⟩ := ih
            exact ⟨j :: l', .step hx hj (by rw [upz_other _ _ e]; exact hp) ha hl'⟩
      by_cases e : v = (A k).v
      · subst e; exact ⟨_, hcv⟩
      · rw [upz_other _ _ e] at hv
        obtain ⟨l, hl⟩ := h.chn v hv
        exact key hl
  · rw [if_neg hg]
    exact h
theorem ti_fold (hr : ∀ k, k < M → 0 ≤ rcA π (A k)) (hb : ∀ k, k < M → (A k).u < n ∧ (A k).v < n ∧ (A k).c ≤ 10000) (h : TI A M n π f s) : ∀ k, k ≤ M → TI A M n π f (tfold A s k)
  | 0, _ => h
  | k + 1, hk => ti_step hr hb (ti_fold hr hb h k (by omega)) (by omega)
theorem ti_start (hf : f < n) (p : Nat → Int) (b : Bool) : TI A M n π f ⟨upz (fun _ => FAR) f 0, p, b⟩ := by
  have hF : (0 : Int) < FAR := by decide
  have hd : ∀ v, upz (fun _ => FAR) f (0 : Int) v < FAR → v = f := fun v hv => by
    by_cases e : v = f
    · exact e
    · rw [upz_other _ _ e] at hv; omega
  refine ⟨by simp only; rw [upz_same], fun v => ?_, fun v hv => ?_, fun v hv => ?_, fun v hv hne => absurd (hd v hv) hne, fun v hv => ?_⟩
  · simp only
    by_cases e : v = f
    · subst e; rw [upz_same]; omega
    · rw [upz_other _ _ e]; exact Int.le_refl _
  · rw [hd v hv]; simp only; rw [upz_same]; omega
  · rw [hd v hv]; simp only; rw [upz_same]; omega
  · rw [hd v hv]; exact ⟨[], .top⟩
/-- nothing gives way: every arc leads on, chains are tight -/
theorem ti_end (hr : ∀ k, k < M → 0 ≤ rcA π (A k)) (hb : ∀ k, k < M → (A k).u < n ∧ (A k).v < n ∧ (A k).c ≤ 10000) (hn : n ≤ 64) (h : TI A M n π f s) (hq : ∀ k, k < M → ¬ Gives A s.d k) :
    (∀ k, k < M → s.d (A k).u < FAR → s.d (A k).v < FAR ∧ s.d (A k).v ≤ s.d (A k).u + (A k).c) ∧
    ∀ v l, s.d v < FAR → PCh A M s.p f v l → ∀ k ∈ l, k < M ∧ s.d (A k).u < FAR ∧ s.d (A k).v < FAR ∧ s.d (A k).v = s.d (A k).u + (A k).c := by
  have h1 : ∀ k, k < M → s.d (A k).u < FAR → s.d (A k).v < FAR ∧ s.d (A k).v ≤ s.d (A k).u + (A k).c := by
    intro k hk hu
    have hg := hq k hk
    unfold Gives at hg
    have h2 := h.up _ hu
    have h3 := cntR_le n s.d
    have h4 := (hb k hk).2.2
    have : FAR = 1099511627776 := rfl
    omega
  refine ⟨h1, fun v l hv hc => ?_⟩
  induction hc with
  | top => intro k hk; cases hk
  | @step v k l hvf hk hp ha _ ih =>
    obtain ⟨k', j1, j2, j3, j4, j5⟩ := h.prd v hv hvf
    have hkk : k' = k := by rw [hp] at j2; omega
    subst hkk
    intro j hj
    rcases List.mem_cons.1 hj with rfl | hj
    · have := h1 j hk j4
      rw [ha] at this ⊢
      exact ⟨hk, j4, this.1, by omega⟩
    · exact ih j4 j hj
/-- one chain only -/
theorem pch_one {p : Nat → Int} {v : Nat} {l m : List Nat} (h : PCh A M p f v l) : PCh A M p f v m → l = m := by
  induction h generalizing m with
  | top =>
    intro hm
    cases hm with
    | top => rfl
    | step h1 _ _ _ _ => exact absurd rfl h1
  | @step v k l hv hk hp ha _ ih =>
    intro hm
    cases hm with
    | top => exact absurd rfl hv
    | @step _ k2 l2 h1 h2 h3 h4 h5 =>
      have : k2 = k := by rw [hp] at h3; omega
      subst this
      rw [ih h5]
theorem pch_at {p : Nat → Int} {v : Nat} {l : List Nat} (h : PCh A M p f v l) : ∀ k ∈ l, ∃ m, PCh A M p f (A k).v (k :: m) ∧ m.length < l.length := by
  induction h with
  | top => intro k hk; cases hk
  | @step v k l hv hk hp ha hc ih =>
    intro j hj
    rcases List.mem_cons.1 hj with rfl | hj
    · exact ⟨l, by rw [ha]; exact .step hv hk hp ha hc, by simp⟩
    · obtain ⟨m, h1, h2⟩ := ih j hj
      exact ⟨m, h1, by simp; omega⟩
theorem pch_nodup {p : Nat → Int} {v : Nat} {l : List Nat} (h : PCh A M p f v l) : l.Nodup := by
  induction h with
  | top => exact List.nodup_nil
  | @step v k l hv hk hp ha hc ih =>
    refine List.nodup_cons.2 ⟨fun hm => ?_, ih⟩
    obtain ⟨m, h1, h2⟩ := pch_at hc k hm
    rw [ha] at h1
    have := pch_one (PCh.step hv hk hp ha hc) h1
    simp only [List.cons.injEq, true_and] at this
    rw [this] at h2
    omega
end
/-- what is used, turned round on some edges -/
def flipL (U : Nat → Bool) (l : List Nat) : Nat → Bool := fun i => if i ∈ l then !U i else U i
theorem flipL_nil (U : Nat → Bool) : flipL U [] = U := by funext i; simp [flipL]
theorem flipL_snoc {U : Nat → Bool} {l : List Nat} {k : Nat} (h : k ∉ l) : upz (flipL U l) k (!(flipL U l k)) = flipL U (l ++ [k]) := by
  funext i
  by_cases e : i = k
  · subst e
    rw [upz_same]
    simp [flipL, h]
  · rw [upz_other _ _ e]
    simp [flipL, e]
/-- the potentials behind a search -/
def newPi (π d : Nat → Int) : Nat → Int := fun v => if d v < FAR then d v else π v + 2 * FAR
theorem opt_flip {es : List Ed} {π d : Nat → Int} {U : Nat → Bool} {l : List Nat} (h : Opt es π U) (hc : ∀ i, i < es.length → -10000 ≤ ec es i ∧ ec es i ≤ 10000) (hπ : ∀ v, 0 ≤ π v)
    (hfe : ∀ k, k < es.length → d (arcN es U k).u < FAR → d (arcN es U k).v < FAR ∧ d (arcN es U k).v ≤ d (arcN es U k).u + (arcN es U k).c)
    (ht : ∀ k ∈ l, k < es.length ∧ d (arcN es U k).u < FAR ∧ d (arcN es U k).v < FAR ∧ d (arcN es U k).v = d (arcN es U k).u + (arcN es U k).c) : Opt es (newPi π d) (flipL U l) := by
  have hF : FAR = 1099511627776 := rfl
  have key : ∀ k, k < es.length → 0 ≤ rcA (newPi π d) (arcN es U k) := by
    intro k hk
    have h1 := h k hk
    have h2 := hfe k hk
    have h3 := hc k hk
    have h4 : -10000 ≤ (arcN es U k).c := by unfold arcN; split <;> simp only <;> omega
    have h5 := hπ (arcN es U k).u
    unfold rcA at h1 ⊢
    unfold newPi
    by_cases hu : d (arcN es U k).u < FAR
    · have := h2 hu
      rw [if_pos hu, if_pos this.1]
      omega
    · rw [if_neg hu]
      by_cases hv : d (arcN es U k).v < FAR
      · rw [if_pos hv]; omega
      · rw [if_neg hv]; omega
  intro i hi
  by_cases hm : i ∈ l
  · obtain ⟨t1, t2, t3, t4⟩ := ht i hm
    have hz : rcA (newPi π d) (arcN es U i) = 0 := by
      unfold rcA newPi
      rw [if_pos t2, if_pos t3]
      omega
    have hfl : flipL U l i = !U i := by simp [flipL, hm]
    unfold rcA at hz ⊢
    unfold arcN at hz ⊢
    rw [hfl]
    cases hU : U i with
    | true =>
      rw [hU] at hz
      simp at hz ⊢
      omega
    | false =>
      rw [hU] at hz
      simp at hz ⊢
      omega
  · have hfl : flipL U l i = U i := by simp [flipL, hm]
    have := key i hi
    unfold arcN at this ⊢
    rw [hfl]
    exact this
end Go.Proofs.Ytcehdpeeaogpiaa

/-! Plain laws for two walks that share no edge: balances, and that right potentials make a choice of edges the cheapest. No condition. -/
namespace Go.Proofs.Ytcehdpeeaogpiaa
open Go.RowKit
set_option linter.unusedSimpArgs false
set_option linter.unusedVariables false
def isum : Nat → (Nat → Int) → Int
  | 0, _ => 0
  | m + 1, g => isum m g + g m
theorem isum_congr : ∀ {m : Nat} {g h : Nat → Int}, (∀ i, i < m → g i = h i) → isum m g = isum m h
  | 0, _, _, _ => rfl
  | m + 1, g, h, e => by rw [isum, isum, isum_congr (fun i hi => e i (by omega)), e m (by omega)]
theorem isum_add : ∀ (m : Nat) (g h : Nat → Int), isum m (fun i => g i + h i) = isum m g + isum m h
  | 0, _, _ => rfl
  | m + 1, g, h => by rw [isum, isum, isum, isum_add m g h]; omega
theorem isum_sub (m : Nat) (g h : Nat → Int) : isum m (fun i => g i - h i) = isum m g - isum m h := by
  induction m with
  | zero => rfl
  | succ m ih => rw [isum, isum, isum, ih]; omega
theorem isum_le : ∀ {m : Nat} {g h : Nat → Int}, (∀ i, i < m → g i ≤ h i) → isum m g ≤ isum m h
  | 0, _, _, _ => Int.le_refl _
  | m + 1, g, h, e => by
    have h1 := isum_le (m := m) (fun i hi => e i (by omega))
    have h2 := e m (by omega)
    rw [isum, isum]
    omega
theorem isum_zero : ∀ (m : Nat), isum m (fun _ => 0) = 0
  | 0 => rfl
  | m + 1 => by rw [isum, isum_zero m]; rfl
/-- one place changed -/
theorem isum_upz (g : Nat → Int) (k : Nat) (x : Int) : ∀ (m : Nat), isum m (upz g k x) = isum m g + (if k < m then x - g k else 0)
  | 0 => by simp [isum]
  | m + 1 => by
    rw [isum, isum, isum_upz g k x m]
    by_cases h : k < m
    · rw [if_pos h, if_pos (by omega), upz_other _ _ (by omega)]
      omega
    · rw [if_neg h]
      by_cases e : m = k
      · subst e
        rw [upz_same, if_pos (by omega)]
        omega
      · rw [upz_other _ _ e, if_neg (by omega)]
        omega
/-- what stands at one place -/
theorem isum_one (π : Nat → Int) (e : Nat) : ∀ (n : Nat), isum n (fun v => π v * (if e = v then 1 else 0)) = if e < n then π e else 0
  | 0 => by simp [isum]
  | n + 1 => by
    rw [isum, isum_one π e n]
    by_cases h : e < n
    · rw [if_pos h, if_neg (show ¬ e = n by omega), if_pos (show e < n + 1 by omega)]
      omega
    · rw [if_neg h]
      by_cases h2 : e = n
      · subst h2
        rw [if_pos rfl, if_pos (show e < e + 1 by omega)]
        omega
      · rw [if_neg h2, if_neg (show ¬ e < n + 1 by omega)]
        omega
def ind (a v : Nat) : Int := if a = v then 1 else 0
/-- how many more of the used edges leave a place than come to it -/
def balN (es : List Ed) (U : Nat → Bool) (m v : Nat) : Int := isum m (fun i => if U i = true then ind (eu es i) v - ind (ev es i) v else 0)
def balU (es : List Ed) (U : Nat → Bool) (v : Nat) : Int := balN es U es.length v
def costU (es : List Ed) (U : Nat → Bool) : Int := isum es.length (fun i => if U i = true then ec es i else 0)
/-- one edge turned round -/
theorem bal_flip {es : List Ed} (U : Nat → Bool) {k : Nat} (hk : k < es.length) (v : Nat) : balU es (upz U k (!U k)) v = balU es U v + (ind (arcN es U k).u v - ind (arcN es U k).v v) := by
  unfold balU balN
  have h1 : isum es.length (fun i => if upz U k (!U k) i = true then ind (eu es i) v - ind (ev es i) v else 0) = isum es.length (upz (fun i => if U i = true then ind (eu es i) v - ind (ev es i) v else 0) k (if (!U k) = true then ind (eu es k) v - ind (ev es k) v else 0)) := by
    refine isum_congr (fun i _ => ?_)
    by_cases e : i = k
    · subst e; rw [upz_same, upz_same]
    · rw [upz_other _ _ e, upz_other _ _ e]
  rw [h1, isum_upz, if_pos hk]
  congr 1
  unfold arcN
  cases hU : U k with
  | true => simp; omega
  | false => simp
theorem bal_flipL {es : List Ed} (U : Nat → Bool) (v : Nat) : ∀ (l2 l1 : List Nat), (l1 ++ l2).Nodup → (∀ k ∈ l2, k < es.length) → balU es (flipL U (l1 ++ l2)) v = balU es (flipL U l1) v + (l2.map (fun k => ind (arcN es U k).u v - ind (arcN es U k).v v)).sum
  | [], l1, _, _ => by simp
  | k :: l2, l1, hd, hl => by
    have hk : k ∉ l1 := fun h => (List.nodup_append.1 hd).2.2 k h k List.mem_cons_self rfl
    have ih := bal_flipL U v l2 (l1 ++ [k]) (by simpa using hd) (fun j hj => hl j (List.mem_cons_of_mem _ hj))
    rw [List.append_assoc] at ih
    simp only [List.cons_append, List.nil_append] at ih
    have h1 := bal_flip (es := es) (flipL U l1) (hl k List.mem_cons_self) v
    rw [flipL_snoc hk] at h1
    have h2 : arcN es (flipL U l1) k = arcN es U k := by
      have : flipL U l1 k = U k := by simp [flipL, hk]
      unfold arcN
      rw [this]
    rw [ih, h1, h2, List.map_cons, List.sum_cons]
    omega
/-- a chain goes from the start to its place -/
theorem pch_bal {A : Nat → NE} {M : Nat} {p : Nat → Int} {f v : Nat} {l : List Nat} (h : PCh A M p f v l) (x : Nat) : (l.map (fun k => ind (A k).u x - ind (A k).v x)).sum = ind f x - ind v x := by
  induction h with
  | top => simp
  | @step v k l hv hk hp ha _ ih =>
    rw [List.map_cons, List.sum_cons, ih, ha]
    omega
/-- the fall of a potential along what is used -/
theorem bal_pot {es : List Ed} {n : Nat} (π : Nat → Int) (U : Nat → Bool) : ∀ (m : Nat), (∀ i, i < m → eu es i < n ∧ ev es i < n) → isum m (fun i => if U i = true then π (eu es i) - π (ev es i) else 0) = isum n (fun v => π v * balN es U m v)
  | 0, _ => by
    have e : isum n (fun v => π v * balN es U 0 v) = isum n (fun _ => 0) := isum_congr (fun v _ => by show π v * 0 = 0; simp)
    rw [e, isum_zero]
    rfl
  | m + 1, h => by
    have ih := bal_pot (es := es) (n := n) π U m (fun i hi => h i (by omega))
    have hm := h m (by omega)
    rw [isum, ih]
    have e : isum n (fun v => π v * balN es U (m + 1) v) = isum n (fun v => π v * balN es U m v) + isum n (fun v => if U m = true then π v * (if eu es m = v then 1 else 0) - π v * (if ev es m = v then 1 else 0) else 0) := by
      rw [← isum_add]
      refine isum_congr (fun v _ => ?_)
      unfold balN
      rw [isum, Int.mul_add]
      congr 1
      by_cases hU : U m = true
      · rw [if_pos hU, if_pos hU]
        unfold ind
        rw [Int.mul_sub]
      · rw [if_neg hU, if_neg hU, Int.mul_zero]
    rw [e]
    congr 1
    by_cases hU : U m = true
    · simp only [if_pos hU]
      rw [isum_sub, isum_one, isum_one, if_pos hm.1, if_pos hm.2]
    · simp only [if_neg hU]
      rw [isum_zero]
/-- what is used costs the least of all that balances so -/
theorem opt_least {es : List Ed} {n : Nat} {π : Nat → Int} {U V : Nat → Bool} (hE : ∀ i, i < es.length → eu es i < n ∧ ev es i < n) (h : Opt es π U) (hb : ∀ v, v < n → balU es U v = balU es V v) : costU es U ≤ costU es V := by
  have hc : ∀ W : Nat → Bool, costU es W + isum n (fun v => π v * balU es W v) = isum es.length (fun i => if W i = true then ec es i + π (eu es i) - π (ev es i) else 0) := by
    intro W
    unfold costU balU
    rw [← bal_pot π W es.length hE, ← isum_add]
    refine isum_congr (fun i _ => ?_)
    by_cases hW : W i = true
    · rw [if_pos hW, if_pos hW, if_pos hW]; omega
    · rw [if_neg hW, if_neg hW, if_neg hW]; omega
  have h1 := hc U
  have h2 := hc V
  have h3 : isum n (fun v => π v * balU es U v) = isum n (fun v => π v * balU es V v) := isum_congr (fun v hv => by rw [hb v hv])
  have h4 : isum es.length (fun i => if U i = true then ec es i + π (eu es i) - π (ev es i) else 0) ≤ isum es.length (fun i => if V i = true then ec es i + π (eu es i) - π (ev es i) else 0) := by
    refine isum_le (fun i hi => ?_)
    have ho := opt_used h hi
    cases hU : U i with
    | true =>
      have := ho.1 hU
      cases hV : V i with
      | true => simp
      | false => simp; omega
    | false =>
      have := ho.2 hU
      cases hV : V i with
      | true => simp; omega
      | false => simp
  omega
end Go.Proofs.Ytcehdpeeaogpiaa

/-! Plain laws for two walks that share no edge: walks as lists of edges, their balance; what is left over. No condition. -/
namespace Go.Proofs.Ytcehdpeeaogpiaa
open Go.RowKit
set_option linter.unusedSimpArgs false
set_option linter.unusedVariables false
def inL2 (l : List Nat) : Nat → Bool := fun i => decide (i ∈ l)
theorem isum_in {m : Nat} (g : Nat → Int) : ∀ (l : List Nat), l.Nodup → (∀ i ∈ l, i < m) → isum m (fun i => if inL2 l i = true then g i else 0) = (l.map g).sum
  | [], _, _ => by
    rw [isum_congr (h := fun _ => 0) (fun i _ => by simp [inL2]), isum_zero]
    rfl
  | k :: l, hd, hl => by
    have ih := isum_in g l (List.nodup_cons.1 hd).2 (fun i hi => hl i (List.mem_cons_of_mem _ hi))
    have hk := (List.nodup_cons.1 hd).1
    have e : isum m (fun i => if inL2 (k :: l) i = true then g i else 0) = isum m (upz (fun i => if inL2 l i = true then g i else 0) k (g k)) := by
      refine isum_congr (fun i _ => ?_)
      by_cases h : i = k
      · subst h; rw [upz_same]; simp [inL2]
      · rw [upz_other _ _ h]; simp [inL2, h]
    rw [e, isum_upz, if_pos (hl k List.mem_cons_self), ih, List.map_cons, List.sum_cons]
    have : inL2 l k = false := by simp [inL2, hk]
    rw [this]
    simp
    omega
theorem isum_lt {m : Nat} {g h : Nat → Int} (hle : ∀ i, i < m → g i ≤ h i) {k : Nat} (hk : k < m) (hlt : g k < h k) : isum m g < isum m h := by
  induction m with
  | zero => omega
  | succ m ih =>
    rw [isum, isum]
    have hm := hle m (by omega)
    by_cases e : k = m
    · subst e
      have := isum_le (m := k) (fun i hi => hle i (by omega))
      omega
    · have := ih (fun i hi => hle i (by omega)) (by omega)
      omega
/-- a walk over edges, by their numbers -/
def WkL (es : List Ed) : Nat → List Nat → Nat → Prop
  | u, [], v => u = v
  | u, i :: l, v => i < es.length ∧ eu es i = u ∧ WkL es (ev es i) l v
theorem wkl_app {es : List Ed} : ∀ {l1 : List Nat} {u x v : Nat} {l2 : List Nat}, WkL es u l1 x → WkL es x l2 v → WkL es u (l1 ++ l2) v
  | [], u, x, v, l2, h1, h2 => by have : u = x := h1; subst this; exact h2
  | i :: l1, u, x, v, l2, h1, h2 => ⟨h1.1, h1.2.1, wkl_app h1.2.2 h2⟩
theorem wkl_lt {es : List Ed} : ∀ {l : List Nat} {u v : Nat}, WkL es u l v → ∀ i ∈ l, i < es.length
  | [], _, _, _, i, hi => by cases hi
  | j :: l, u, v, h, i, hi => by
    rcases List.mem_cons.1 hi with rfl | hi
    · exact h.1
    · exact wkl_lt h.2.2 i hi
theorem wkl_sum {es : List Ed} (x : Nat) : ∀ {l : List Nat} {u v : Nat}, WkL es u l v → (l.map (fun i => ind (eu es i) x - ind (ev es i) x)).sum = ind u x - ind v x
  | [], u, v, h => by have : u = v := h; subst this; simp
  | i :: l, u, v, h => by
    rw [List.map_cons, List.sum_cons, wkl_sum x h.2.2, h.2.1]
    omega
/-- what some walks balance to -/
theorem bal_list {es : List Ed} {l : List Nat} (hd : l.Nodup) (hl : ∀ i ∈ l, i < es.length) (x : Nat) : balU es (inL2 l) x = (l.map (fun i => ind (eu es i) x - ind (ev es i) x)).sum := by
  unfold balU balN
  exact isum_in _ l hd hl
theorem cost_list {es : List Ed} {l : List Nat} (hd : l.Nodup) (hl : ∀ i ∈ l, i < es.length) : costU es (inL2 l) = sumE es l := by
  unfold costU
  rw [isum_in _ l hd hl]
  unfold sumE
  rw [foldE_sum, Int.zero_add]
  rfl
theorem sumE_app (es : List Ed) (a b : List Nat) : sumE es (a ++ b) = sumE es a + sumE es b := by
  unfold sumE
  rw [foldE_sum, foldE_sum, foldE_sum]
  simp
/-- where more leave than come there is one that leaves -/
theorem bal_out {es : List Ed} {U : Nat → Bool} {v : Nat} (h : 1 ≤ balU es U v) : ∃ i, i < es.length ∧ U i = true ∧ eu es i = v := by
  apply Classical.byContradiction
  intro hn
  have : balU es U v ≤ 0 := by
    have h0 := isum_le (m := es.length) (g := fun i => if U i = true then ind (eu es i) v - ind (ev es i) v else 0) (h := fun _ => 0) (fun i hi => by
      by_cases hU : U i = true
      · rw [if_pos hU]
        have h1 : ¬ eu es i = v := fun e => hn ⟨i, hi, hU, e⟩
        unfold ind
        rw [if_neg h1]
        split <;> omega
      · rw [if_neg hU]; exact Int.le_refl _)
    rw [isum_zero] at h0
    exact h0
  omega
/-- two walks over what is used: all that is used, and the cheapest -/
theorem two_all {es : List Ed} {n f t : Nat} {π : Nat → Int} {U : Nat → Bool} {A B : List Nat} (hE : ∀ i, i < es.length → eu es i < n ∧ ev es i < n) (hc : ∀ i, i < es.length → 1 ≤ ec es i) (h : Opt es π U) (hb : ∀ v, balU es U v = 2 * (ind f v - ind t v))
    (hA : WkL es f A t) (hB : WkL es f B t) (hd : (A ++ B).Nodup) (hU : ∀ i ∈ A ++ B, U i = true) : (∀ i, i < es.length → U i = true → i ∈ A ++ B) ∧ costU es U = sumE es A + sumE es B := by
  have hl : ∀ i ∈ A ++ B, i < es.length := fun i hi => by
    rcases List.mem_append.1 hi with hi | hi
    · exact wkl_lt hA i hi
    · exact wkl_lt hB i hi
  have hbal : ∀ v, balU es (inL2 (A ++ B)) v = 2 * (ind f v - ind t v) := fun v => by
    rw [bal_list hd hl, List.map_append, List.sum_append, wkl_sum v hA, wkl_sum v hB]
    omega
  have hle := opt_least (V := inL2 (A ++ B)) hE h (fun v _ => by rw [hb, hbal])
  have hall : ∀ i, i < es.length → U i = true → i ∈ A ++ B := by
    intro i hi hUi
    apply Classical.byContradiction
    intro hn
    have hlt : costU es (inL2 (A ++ B)) < costU es U := by
      unfold costU
      refine isum_lt (k := i) (fun j hj => ?_) hi ?_
      · by_cases hj2 : j ∈ A ++ B
        · have h1 : inL2 (A ++ B) j = true := by simp only [inL2, hj2, decide_true]
          rw [if_pos h1, if_pos (hU j hj2)]
          exact Int.le_refl _
        · have h1 : ¬ inL2 (A ++ B) j = true := by simp only [inL2, hj2, decide_false]; simp
          rw [if_neg h1]
          have := hc j hj
          split <;> omega
      · have h1 : ¬ inL2 (A ++ B) i = true := by simp only [inL2, hn, decide_false]; simp
        rw [if_neg h1, if_pos hUi]
        have := hc i hi
        omega
    omega
  refine ⟨hall, ?_⟩
  rw [← sumE_app, ← cost_list hd hl]
  unfold costU
  refine isum_congr (fun i hi => ?_)
  by_cases hi2 : i ∈ A ++ B
  · have h1 : inL2 (A ++ B) i = true := by simp only [inL2, hi2, decide_true]
    rw [if_pos h1, if_pos (hU i hi2)]
  · have h1 : ¬ inL2 (A ++ B) i = true := by simp only [inL2, hi2, decide_false]; simp
    have h2 : ¬ U i = true := fun e => hi2 (hall i hi e)
    rw [if_neg h1, if_neg h2]
/-- no other two cost less -/
theorem two_least {es : List Ed} {n f t : Nat} {π : Nat → Int} {U : Nat → Bool} {a b : List Nat} (hE : ∀ i, i < es.length → eu es i < n ∧ ev es i < n) (h : Opt es π U) (hb : ∀ v, balU es U v = 2 * (ind f v - ind t v)) (ha : WkL es f a t) (hb2 : WkL es f b t) (hd : (a ++ b).Nodup) : costU es U ≤ sumE es a + sumE es b := by
  have hl : ∀ i ∈ a ++ b, i < es.length := fun i hi => by
    rcases List.mem_append.1 hi with hi | hi
    · exact wkl_lt ha i hi
    · exact wkl_lt hb2 i hi
  have hle := opt_least (V := inL2 (a ++ b)) hE h (fun v _ => by
    rw [hb, bal_list hd hl, List.map_append, List.sum_append, wkl_sum v ha, wkl_sum v hb2]
    omega)
  rw [cost_list hd hl, sumE_app] at hle
  exact hle
/-- a walk that comes to a place twice has a round in it -/
theorem wkl_round {es : List Ed} : ∀ {l : List Nat} {u v : Nat}, WkL es u l v → ¬ (plc es u l).Nodup → ∃ l1 z l2 x, l = l1 ++ z ++ l2 ∧ z ≠ [] ∧ WkL es u l1 x ∧ WkL es x z x ∧ WkL es x l2 v
  | [], u, v, _, hn => absurd (by simp [plc]) hn
  | i :: l, u, v, h, hn => by
    rw [plc] at hn
    by_cases hu : u ∈ plc es (edN es i).v.toNat l
    · have key : ∀ {m : List Nat} {y : Nat}, WkL es y m v → u ∈ plc es y m → ∃ m1 m2, m = m1 ++ m2 ∧ WkL es y m1 u ∧ WkL es u m2 v := by
        intro m
        induction m with
        | nil =>
          intro y hy hm
          simp [plc] at hm
          subst hm
          exact ⟨[], [], rfl, rfl, hy⟩
        | cons j m ih =>
          intro y hy hm
          rw [plc] at hm
          rcases List.mem_cons.1 hm with e | hm
          · subst e; exact ⟨[], j :: m, rfl, rfl, hy⟩
          · obtain ⟨m1, m2, e1, e2, e3⟩ := ih hy.2.2 hm
            exact ⟨j :: m1, m2, by rw [e1]; rfl, ⟨hy.1, hy.2.1, e2⟩, e3⟩
      obtain ⟨m1, m2, e1, e2, e3⟩ := key h.2.2 hu
      exact ⟨[], i :: m1, m2, u, by rw [e1]; rfl, by simp, rfl, ⟨h.1, h.2.1, e2⟩, e3⟩
    · have hn2 : ¬ (plc es (ev es i) l).Nodup := fun h2 => hn (List.nodup_cons.2 ⟨hu, h2⟩)
      obtain ⟨l1, z, l2, x, e1, e2, e3, e4, e5⟩ := wkl_round h.2.2 hn2
      exact ⟨i :: l1, z, l2, x, by rw [e1]; rfl, e2, ⟨h.1, h.2.1, e3⟩, e4, e5⟩
theorem sumE_pos {es : List Ed} (hc : ∀ i, i < es.length → 1 ≤ ec es i) : ∀ {l : List Nat}, (∀ i ∈ l, i < es.length) → (l.length : Int) ≤ sumE es l
  | [], _ => by simp [sumE]
  | i :: l, h => by
    have h1 := sumE_pos hc (l := l) (fun j hj => h j (List.mem_cons_of_mem _ hj))
    have h2 := hc i (h i List.mem_cons_self)
    unfold ec at h2
    rw [sumE_cons, List.length_cons]
    omega
/-- neither comes to a place twice -/
theorem two_once {es : List Ed} {n f t : Nat} {π : Nat → Int} {U : Nat → Bool} {A B : List Nat} (hE : ∀ i, i < es.length → eu es i < n ∧ ev es i < n) (hc : ∀ i, i < es.length → 1 ≤ ec es i) (h : Opt es π U) (hb : ∀ v, balU es U v = 2 * (ind f v - ind t v))
    (hA : WkL es f A t) (hB : WkL es f B t) (hd : (A ++ B).Nodup) (hU : ∀ i ∈ A ++ B, U i = true) : (plc es f A).Nodup := by
  apply Classical.byContradiction
  intro hn
  obtain ⟨l1, z, l2, x, e1, e2, e3, e4, e5⟩ := wkl_round hA hn
  have hcost := (two_all hE hc h hb hA hB hd hU).2
  have hd2 : ((l1 ++ l2) ++ B).Nodup := by
    subst e1
    rw [List.nodup_append] at hd ⊢
    refine ⟨hd.1.sublist ?_, hd.2.1, fun i hi j hj => hd.2.2 i ?_ j hj⟩
    · rw [List.append_assoc]
      exact List.Sublist.append_left (List.sublist_append_right _ _) _
    · rcases List.mem_append.1 hi with hi | hi
      · exact List.mem_append_left _ (List.mem_append_left _ hi)
      · exact List.mem_append_right _ hi
  have hle := two_least hE h hb (wkl_app e3 e5) hB hd2
  have hz := sumE_pos hc (wkl_lt e4)
  have hzl : 0 < z.length := List.length_pos_iff.2 e2
  rw [hcost, e1, sumE_app, sumE_app, sumE_app] at hle
  omega
/-- where the search does not reach, no choice of edges carries more -/
theorem cut_most {es : List Ed} {n f t : Nat} {U V : Nat → Bool} {S : Nat → Bool} {j k : Int} (hE : ∀ i, i < es.length → eu es i < n ∧ ev es i < n) (hf : f < n) (ht : t < n) (hS : ∀ i, i < es.length → S (arcN es U i).u = true → S (arcN es U i).v = true) (hSf : S f = true) (hSt : S t = false)
    (hU : ∀ v, balU es U v = k * (ind f v - ind t v)) (hV : ∀ v, balU es V v = j * (ind f v - ind t v)) : j ≤ k := by
  obtain ⟨π, hπ⟩ : ∃ π : Nat → Int, π = fun v => if S v = true then 1 else 0 := ⟨_, rfl⟩
  have hval : ∀ (W : Nat → Bool) (q : Int), (∀ v, balU es W v = q * (ind f v - ind t v)) → isum es.length (fun i => if W i = true then π (eu es i) - π (ev es i) else 0) = q := by
    intro W q hW
    rw [bal_pot π W es.length hE]
    have e : isum n (fun v => π v * balN es W es.length v) = isum n (fun v => (fun v => π v * q) v * (if f = v then 1 else 0) - (fun v => π v * q) v * (if t = v then 1 else 0)) := by
      refine isum_congr (fun v _ => ?_)
      have := hW v
      unfold balU at this
      rw [this]
      simp only [ind]
      rw [← Int.mul_sub, Int.mul_assoc]
    rw [e, isum_sub, isum_one, isum_one, if_pos hf, if_pos ht, hπ]
    simp [hSf, hSt]
  have h1 := hval U k hU
  have h2 := hval V j hV
  rw [← h1, ← h2]
  refine isum_le (fun i hi => ?_)
  have ha := hS i hi
  unfold arcN at ha
  cases hUi : U i with
  | true =>
    rw [if_pos hUi] at ha
    simp only at ha
    rw [hπ]
    cases hVi : V i with
    | true => simp
    | false =>
      simp
      cases h3 : S (ev es i) with
      | true => simp [ha h3]
      | false => simp; split <;> omega
  | false =>
    rw [if_neg (by simp [hUi])] at ha
    simp only at ha
    rw [hπ]
    cases hVi : V i with
    | true =>
      simp
      cases h3 : S (eu es i) with
      | true => simp [ha h3]
      | false => simp; split <;> omega
    | false => simp
end Go.Proofs.Ytcehdpeeaogpiaa

/-! Plain laws for two walks that share no edge: the cheapest of some edges between two places; sums over all pairs of places. No condition. -/
namespace Go.Proofs.Ytcehdpeeaogpiaa
open Go.RowKit
set_option linter.unusedSimpArgs false
set_option linter.unusedVariables false
theorem perm_sum {a b : List Int} (h : a.Perm b) : a.sum = b.sum := by
  induction h with
  | nil => rfl
  | cons x _ ih => rw [List.sum_cons, List.sum_cons, ih]
  | swap x y l => simp only [List.sum_cons]; omega
  | trans _ _ h1 h2 => rw [h1, h2]
/-- numbers in order -/
def srt (l : List Int) : List Int := l.mergeSort fun x y => decide (x ≤ y)
theorem srt_perm (l : List Int) : (srt l).Perm l := List.mergeSort_perm _ _
theorem srt_ord (l : List Int) : (srt l).Pairwise (fun a b => a ≤ b) := by
  have := List.pairwise_mergeSort (le := fun x y : Int => decide (x ≤ y)) (fun a b c h1 h2 => by simp at *; omega) (fun a b => by simp; omega) l
  exact this.imp (fun h => by simpa using h)
/-- the least of some are first -/
theorem srt_split {l x y : List Int} (hp : l.Perm (x ++ y)) (hle : ∀ a ∈ x, ∀ b ∈ y, a ≤ b) : ((srt l).take x.length).sum = x.sum := by
  have h1 : srt l = srt x ++ srt y := by
    refine List.Perm.eq_of_pairwise (le := fun a b => a ≤ b) (fun a b _ _ h1 h2 => by omega) (srt_ord l) ?_ ?_
    · rw [List.pairwise_append]
      refine ⟨srt_ord x, srt_ord y, fun a ha b hb => hle a ((srt_perm x).mem_iff.1 ha) b ((srt_perm y).mem_iff.1 hb)⟩
    · exact (srt_perm l).trans (hp.trans ((srt_perm x).symm.append (srt_perm y).symm))
  rw [h1, List.take_append_of_le_length (by rw [(srt_perm x).length_eq]; exact Nat.le_refl _), List.take_of_length_le (by rw [(srt_perm x).length_eq]; exact Nat.le_refl _)]
  exact perm_sum (srt_perm x)
/-- the edges between two places, by their numbers -/
def btw (es : List Ed) (u v : Nat) : List Nat := (List.range es.length).filter (fun i => decide (eu es i = u) && decide (ev es i = v))
theorem btw_mem {es : List Ed} {u v i : Nat} : i ∈ btw es u v ↔ i < es.length ∧ eu es i = u ∧ ev es i = v := by
  simp [btw]
/-- the used ones are the cheapest -/
theorem btw_least {es : List Ed} {π : Nat → Int} {U : Nat → Bool} (h : Opt es π U) (u v : Nat) : ((srt ((btw es u v).map (ec es))).take ((btw es u v).filter U).length).sum = (((btw es u v).filter U).map (ec es)).sum := by
  have hp : ((btw es u v).map (ec es)).Perm (((btw es u v).filter U).map (ec es) ++ ((btw es u v).filter (fun i => !U i)).map (ec es)) := by
    rw [← List.map_append]
    exact (List.filter_append_perm U (btw es u v)).symm.map _
  have := srt_split hp (fun a ha b hb => by
    obtain ⟨i, hi, rfl⟩ := List.mem_map.1 ha
    obtain ⟨j, hj, rfl⟩ := List.mem_map.1 hb
    obtain ⟨hi1, hi2⟩ := List.mem_filter.1 hi
    obtain ⟨hj1, hj2⟩ := List.mem_filter.1 hj
    obtain ⟨i1, i2, i3⟩ := btw_mem.1 hi1
    obtain ⟨j1, j2, j3⟩ := btw_mem.1 hj1
    have h1 := (opt_used h i1).1 hi2
    have h2 := (opt_used h j1).2 (by simpa using hj2)
    rw [i2, i3] at h1
    rw [j2, j3] at h2
    omega)
  rwa [List.length_map] at this
theorem isum_swap (n m : Nat) (g : Nat → Nat → Int) : isum n (fun u => isum m (fun i => g u i)) = isum m (fun i => isum n (fun u => g u i)) := by
  induction n with
  | zero =>
    rw [isum_congr (g := fun i => isum 0 (fun u => g u i)) (h := fun _ => 0) (fun i _ => rfl), isum_zero]
    rfl
  | succ n ih =>
    rw [isum, ih, ← isum_add]
    rfl
theorem isum_filter (U : Nat → Bool) (g : Nat → Int) : ∀ (m : Nat), isum m (fun i => if U i = true then g i else 0) = (((List.range m).filter U).map g).sum
  | 0 => rfl
  | m + 1 => by
    rw [isum, isum_filter U g m, List.range_succ, List.filter_append, List.map_append, List.sum_append]
    congr 1
    by_cases h : U m = true
    · rw [if_pos h]; simp [h]
    · rw [if_neg h]; simp [h]
theorem isum_at (n e : Nat) (x : Int) (h : e < n) : isum n (fun u => if e = u then x else 0) = x := by
  have h1 := isum_one (fun _ => x) e n
  rw [if_pos h] at h1
  rw [← h1]
  refine isum_congr (fun u _ => ?_)
  by_cases e2 : e = u
  · rw [if_pos e2, if_pos e2]; omega
  · rw [if_neg e2, if_neg e2]; omega
/-- over all pairs of places: all that is used -/
theorem btw_all {es : List Ed} {n : Nat} (hE : ∀ i, i < es.length → eu es i < n ∧ ev es i < n) (U : Nat → Bool) : isum n (fun u => isum n (fun v => (((btw es u v).filter U).map (ec es)).sum)) = costU es U := by
  have h1 : ∀ u v, (((btw es u v).filter U).map (ec es)).sum = isum es.length (fun i => if ev es i = v then (if eu es i = u then (if U i = true then ec es i else 0) else 0) else 0) := by
    intro u v
    unfold btw
    rw [List.filter_filter, ← isum_filter]
    refine isum_congr (fun i _ => ?_)
    by_cases a : ev es i = v <;> by_cases b : eu es i = u <;> by_cases c : U i = true <;> simp [a, b, c]
  have h2 : ∀ u, isum n (fun v => (((btw es u v).filter U).map (ec es)).sum) = isum es.length (fun i => if eu es i = u then (if U i = true then ec es i else 0) else 0) := by
    intro u
    rw [isum_congr (fun v _ => h1 u v), isum_swap]
    exact isum_congr (fun i hi => isum_at n _ _ (hE i hi).2)
  rw [isum_congr (fun u _ => h2 u), isum_swap]
  exact isum_congr (fun i hi => isum_at n _ _ (hE i hi).1)
end Go.Proofs.Ytcehdpeeaogpiaa

/-! Plain laws for two walks that share no edge: how often they step between two places. No condition. -/
namespace Go.Proofs.Ytcehdpeeaogpiaa
open Go.RowKit
set_option linter.unusedSimpArgs false
set_option linter.unusedVariables false
def cntE (es : List Ed) (l : List Nat) (x y : Nat) : Nat := l.countP (fun i => decide (eu es i = x) && decide (ev es i = y))
theorem stC_cons (a : Int) (p : List Int) (k : Nat) (u v : Int) : stC (a :: p) (k + 1) u v = (if a = u ∧ p.getD 0 0 = v then 1 else 0) + stC p k u v := by
  unfold stC
  rw [List.range_succ_eq_map, List.countP_cons, List.countP_map]
  have e : (List.countP ((fun i => decide ((a :: p).getD i 0 = u) && decide ((a :: p).getD (i + 1) 0 = v)) ∘ Nat.succ) (List.range k)) = List.countP (fun i => decide (p.getD i 0 = u) && decide (p.getD (i + 1) 0 = v)) (List.range k) := by
    congr 1
  rw [e]
  by_cases h : a = u ∧ p.getD 0 0 = v
  · rw [if_pos h, if_pos (show (decide ((a :: p).getD 0 0 = u) && decide ((a :: p).getD (0 + 1) 0 = v)) = true by obtain ⟨rfl, rfl⟩ := h; simp)]
    omega
  · rw [if_neg h, if_neg (show ¬ (decide ((a :: p).getD 0 0 = u) && decide ((a :: p).getD (0 + 1) 0 = v)) = true by
      intro h2
      simp only [Bool.and_eq_true, decide_eq_true_eq] at h2
      exact h h2)]
    omega
theorem stA_plc {es : List Ed} (x y : Nat) : ∀ {l : List Nat} {u v : Nat}, WkL es u l v → stA (NI (plc es u l)) (x : Int) (y : Int) = (cntE es l x y : Nat)
  | [], u, v, _ => by simp [plc, NI, stA, stC, cntE]
  | i :: l, u, v, h => by
    have ih := stA_plc x y h.2.2
    have hp : plc es (ev es i) l = ev es i :: l.map (fun i => (edN es i).v.toNat) := plc_eq es l _
    unfold stA at ih ⊢
    have hlen : (NI (plc es u (i :: l))).length - 1 = l.length + 1 := by rw [ni_len, plc_eq]; simp
    have hlen2 : (NI (plc es (ev es i) l)).length - 1 = l.length := by rw [ni_len, plc_eq]; simp
    rw [hlen2] at ih
    rw [hlen]
    have e : NI (plc es u (i :: l)) = (u : Int) :: NI (plc es (ev es i) l) := by rw [plc]; rfl
    rw [e, stC_cons, ih]
    unfold cntE
    rw [List.countP_cons]
    have h0 : (NI (plc es (ev es i) l)).getD 0 0 = (ev es i : Int) := by rw [hp]; rfl
    rw [h0, h.2.1]
    by_cases hc : u = x ∧ ev es i = y
    · obtain ⟨rfl, rfl⟩ := hc
      rw [if_pos ⟨rfl, rfl⟩, if_pos (by simp)]
      omega
    · rw [if_neg (by omega), if_neg (by simp; omega)]
      omega
/-- the steps of both are the edges that are used -/
theorem btw_steps {es : List Ed} {U : Nat → Bool} {A B : List Nat} (hd : (A ++ B).Nodup) (hl : ∀ i ∈ A ++ B, i < es.length) (hU : ∀ i, i < es.length → (U i = true ↔ i ∈ A ++ B)) (x y : Nat) : ((btw es x y).filter U).length = cntE es A x y + cntE es B x y := by
  have h1 : cntE es A x y + cntE es B x y = ((A ++ B).filter (fun i => decide (eu es i = x) && decide (ev es i = y))).length := by
    rw [← List.countP_eq_length_filter, List.countP_append]
    rfl
  rw [h1]
  refine List.Perm.length_eq ((List.perm_ext_iff_of_nodup ((List.nodup_range.filter _).filter _) (hd.filter _)).2 (fun i => ?_))
  rw [List.mem_filter, List.mem_filter, List.mem_filter, List.mem_range]
  constructor
  · rintro ⟨⟨a, bc⟩, d⟩
    exact ⟨(hU i a).1 d, bc⟩
  · rintro ⟨a, b⟩
    have hi := hl i a
    exact ⟨⟨hi, b⟩, (hU i hi).2 a⟩
theorem btw_count (es : List Ed) (x y : Nat) {n : Nat} (hes : Right n es) : edC es es.length (x : Int) (y : Int) = ((btw es x y).length : Nat) := by
  unfold edC btw
  rw [List.take_length, ← List.countP_eq_length_filter]
  have e : es = (List.range es.length).map (edN es) := by
    apply List.ext_getElem
    · simp
    · intro i h1 h2
      simp [edN, List.getD, List.getElem?_eq_getElem h1]
  conv => lhs; rw [e, List.countP_map]
  congr 1
  refine List.countP_congr (fun i hi => ?_)
  have hi' := List.mem_range.1 hi
  have hr := hes (edN es i) (edN_mem hi')
  simp only [Function.comp, Bool.and_eq_true, decide_eq_true_eq]
  unfold eu ev
  constructor
  · rintro ⟨a, b⟩; constructor <;> omega
  · rintro ⟨a, b⟩; constructor <;> omega
end Go.Proofs.Ytcehdpeeaogpiaa

/-! Plain laws for two walks that share no edge: what one search (carry) brings about. No condition. -/
namespace Go.Proofs.Ytcehdpeeaogpiaa
open Go.RowKit
set_option linter.unusedSimpArgs false
set_option linter.unusedVariables false
/-- where one gives way the sum of the costs falls -/
theorem tstep_sum {A : Nat → NE} {s : TS} {k n : Nat} (hk : (A k).v < n) : isum n (tstep A s k).d ≤ isum n s.d ∧ (Gives A s.d k → isum n (tstep A s k).d < isum n s.d) := by
  unfold tstep
  by_cases hg : Gives A s.d k
  · rw [if_pos hg]
    simp only
    rw [isum_upz, if_pos hk]
    have := hg.2
    constructor
    · omega
    · intro _; omega
  · rw [if_neg hg]
    exact ⟨Int.le_refl _, fun h => absurd h hg⟩
theorem tfold_sum {A : Nat → NE} {s : TS} {n M : Nat} (hb : ∀ k, k < M → (A k).v < n) : ∀ k, k ≤ M → isum n (tfold A s k).d ≤ isum n s.d ∧ ((tfold A s k).m = true → s.m = false → isum n (tfold A s k).d < isum n s.d)
  | 0, _ => ⟨Int.le_refl _, fun h1 h2 => by unfold tfold at h1; rw [h2] at h1; cases h1⟩
  | k + 1, hk => by
    obtain ⟨h1, h2⟩ := tfold_sum (s := s) hb k (by omega)
    obtain ⟨h3, h4⟩ := tstep_sum (s := tfold A s k) (hb k (by omega))
    refine ⟨Int.le_trans h3 h1, fun h5 h6 => ?_⟩
    change isum n (tstep A (tfold A s k) k).d < _
    by_cases hg : Gives A (tfold A s k).d k
    · have := h4 hg; omega
    · have h7 : (tfold A s k).m = true := by
        have h8 : tfold A s (k + 1) = tfold A s k := by
          show tstep A (tfold A s k) k = _
          unfold tstep
          rw [if_neg hg]
        rw [h8] at h5
        exact h5
      have := h2 h7 h6
      omega
theorem isum_nn {g : Nat → Int} {n : Nat} (h : ∀ i, i < n → 0 ≤ g i) : 0 ≤ isum n g := by
  have := isum_le (g := fun _ => 0) (h := g) (m := n) h
  rwa [isum_zero] at this
theorem isum_ub {g : Nat → Int} {K : Int} : ∀ {n : Nat}, (∀ i, i < n → g i ≤ K) → isum n g ≤ n * K
  | 0, _ => by simp [isum]
  | n + 1, h => by
    have h1 := isum_ub (g := g) (K := K) (n := n) (fun i hi => h i (by omega))
    have h2 := h n (by omega)
    rw [isum]
    have : ((n + 1 : Nat) : Int) * K = (n : Int) * K + K := by rw [Int.natCast_add, Int.add_mul]; omega
    omega
theorem ti_nn {A : Nat → NE} {M n : Nat} {π : Nat → Int} {f : Nat} {s : TS} (h : TI A M n π f s) (hπ : ∀ v, 0 ≤ π v) (hf : π f = 0) (v : Nat) : 0 ≤ s.d v := by
  rcases Int.lt_or_le (s.d v) FAR with h1 | h1
  · have := h.low v h1
    have := hπ v
    omega
  · have : (0 : Int) < FAR := by decide
    omega
/-- right edges, as arcs -/
theorem arc_ok {es : List Ed} {n : Nat} (hes : Right n es) (U : Nat → Bool) : ∀ k, k < es.length → (arcN es U k).u < n ∧ (arcN es U k).v < n ∧ (arcN es U k).c ≤ 10000 := by
  intro k hk
  have := hes (edN es k) (edN_mem hk)
  unfold arcN eu ev ec
  split <;> simp only <;> omega
theorem right_ends {es : List Ed} {n : Nat} (hes : Right n es) : ∀ i, i < es.length → eu es i < n ∧ ev es i < n := by
  intro i hi
  have := hes (edN es i) (edN_mem hi)
  unfold eu ev
  omega
/-- one more is carried -/
theorem carry_yes {es : List Ed} {n f t : Nat} {π : Nat → Int} {U : Nat → Bool} {s : TS} {k : Int} {l : List Nat} (hes : Right n es) (hn : n ≤ 64) (ho : Opt es π U) (hπ : ∀ v, 0 ≤ π v) (hπf : π f = 0) (hb : ∀ v, balU es U v = k * (ind f v - ind t v))
    (h : TI (arcN es U) es.length n π f s) (hq : ∀ j, j < es.length → ¬ Gives (arcN es U) s.d j) (ht : s.d t < FAR) (hc : PCh (arcN es U) es.length s.p f t l) :
    Opt es (newPi π s.d) (flipL U l) ∧ (∀ v, 0 ≤ newPi π s.d v) ∧ newPi π s.d f = 0 ∧ ∀ v, balU es (flipL U l) v = (k + 1) * (ind f v - ind t v) := by
  obtain ⟨e1, e2⟩ := ti_end (fun j hj => ho j hj) (arc_ok hes U) hn h hq
  have hF : FAR = 1099511627776 := rfl
  have hci : ∀ i, i < es.length → -10000 ≤ ec es i ∧ ec es i ≤ 10000 := fun i hi => by
    have := hes (edN es i) (edN_mem hi)
    unfold ec
    omega
  have hcl := e2 t l ht hc
  refine ⟨opt_flip ho hci hπ e1 hcl, fun v => ?_, ?_, fun v => ?_⟩
  · unfold newPi
    split
    · exact ti_nn h hπ hπf v
    · have := hπ v; omega
  · unfold newPi
    rw [h.f0, if_pos (by omega)]
  · have h1 := bal_flipL (es := es) U v l [] (by simpa using pch_nodup hc) (fun j hj => (hcl j hj).1)
    rw [List.nil_append, flipL_nil] at h1
    rw [h1, pch_bal hc v, hb v, Int.add_mul]
    omega
/-- no more can be carried -/
theorem carry_no {es : List Ed} {n f t : Nat} {π : Nat → Int} {U V : Nat → Bool} {s : TS} {j k : Int} (hes : Right n es) (hn : n ≤ 64) (hf : f < n) (htn : t < n) (ho : Opt es π U) (hb : ∀ v, balU es U v = k * (ind f v - ind t v))
    (h : TI (arcN es U) es.length n π f s) (hq : ∀ j, j < es.length → ¬ Gives (arcN es U) s.d j) (ht : s.d t = FAR) (hV : ∀ v, balU es V v = j * (ind f v - ind t v)) : j ≤ k := by
  obtain ⟨e1, _⟩ := ti_end (fun j hj => ho j hj) (arc_ok hes U) hn h hq
  refine cut_most (S := fun v => decide (s.d v < FAR)) (right_ends hes) hf htn (fun i hi h1 => ?_) ?_ ?_ hb hV
  · simp only [decide_eq_true_eq] at h1 ⊢
    exact (e1 i hi h1).1
  · simp only [h.f0]
    decide
  · simp only [ht]
    decide
end Go.Proofs.Ytcehdpeeaogpiaa

/-! Plain laws for two walks that share no edge: following used edges; the reference's Two and CostTwo. No condition. -/
namespace Go.Proofs.Ytcehdpeeaogpiaa
open Go.RowKit
set_option linter.unusedSimpArgs false
set_option linter.unusedVariables false
/-- what is used but for some edges -/
def lessU (U : Nat → Bool) (l : List Nat) : Nat → Bool := fun i => U i && !(decide (i ∈ l))
theorem lessU_nil (U : Nat → Bool) : lessU U [] = U := by funext i; simp [lessU]
theorem lessU_snoc (U : Nat → Bool) (l : List Nat) (k : Nat) : upz (lessU U l) k false = lessU U (l ++ [k]) := by
  funext i
  by_cases e : i = k
  · subst e; rw [upz_same]; simp [lessU]
  · rw [upz_other _ _ e]; simp [lessU, e]
theorem lessU_bal {es : List Ed} {U : Nat → Bool} {l : List Nat} (hd : l.Nodup) (hl : ∀ i ∈ l, i < es.length ∧ U i = true) (v : Nat) : balU es (lessU U l) v = balU es U v - balU es (inL2 l) v := by
  unfold balU balN
  rw [← isum_sub]
  refine isum_congr (fun i _ => ?_)
  by_cases h : i ∈ l
  · have h1 : lessU U l i = false := by simp [lessU, h]
    have h2 : inL2 l i = true := by simp [inL2, h]
    rw [if_neg (by simp [h1]), if_pos (hl i h).2, if_pos h2]
    omega
  · have h1 : lessU U l i = U i := by simp [lessU, h]
    have h2 : ¬ inL2 l i = true := by simp [inL2, h]
    rw [h1, if_neg h2]
    omega
/-- while edges are followed from f: l, to the place at -/
structure FI (es : List Ed) (U : Nat → Bool) (f at' : Nat) (l : List Nat) : Prop where
  wk : WkL es f l at'
  nd : l.Nodup
  us : ∀ i ∈ l, i < es.length ∧ U i = true
theorem fi_start (es : List Ed) (U : Nat → Bool) (f : Nat) : FI es U f f [] := ⟨rfl, List.nodup_nil, fun i hi => by cases hi⟩
theorem fi_bal {es : List Ed} {U : Nat → Bool} {f at' t : Nat} {l : List Nat} {q : Int} (h : FI es U f at' l) (hb : ∀ v, balU es U v = q * (ind f v - ind t v)) (v : Nat) : balU es (lessU U l) v = q * (ind f v - ind t v) - (ind f v - ind at' v) := by
  rw [lessU_bal h.nd h.us, hb, bal_list h.nd (fun i hi => (h.us i hi).1), wkl_sum v h.wk]
/-- there is an edge to go on by -/
theorem fi_next {es : List Ed} {U : Nat → Bool} {f at' t : Nat} {l : List Nat} {q : Int} (h : FI es U f at' l) (hq : 1 ≤ q) (hb : ∀ v, balU es U v = q * (ind f v - ind t v)) (hne : at' ≠ t) : ∃ i, i < es.length ∧ lessU U l i = true ∧ eu es i = at' := by
  refine bal_out ?_
  rw [fi_bal h hb]
  have h1 : ind t at' = 0 := by unfold ind; rw [if_neg (fun e => hne e.symm)]
  have h2 : ind at' at' = 1 := by unfold ind; rw [if_pos rfl]
  rw [h1, h2]
  unfold ind
  split
  · simp; omega
  · simp
theorem fi_step {es : List Ed} {U : Nat → Bool} {f at' i : Nat} {l : List Nat} (h : FI es U f at' l) (hi : i < es.length) (hU : lessU U l i = true) (hu : eu es i = at') : FI es U f (ev es i) (l ++ [i]) := by
  have hni : i ∉ l := fun e => by simp [lessU, e] at hU
  have hUi : U i = true := by simp [lessU] at hU; exact hU.1
  refine ⟨wkl_app h.wk ⟨hi, hu, rfl⟩, ?_, fun j hj => ?_⟩
  · rw [List.nodup_append]
    refine ⟨h.nd, by simp, fun a ha b hb e => ?_⟩
    rw [List.mem_singleton.1 hb] at e
    subst e
    exact hni ha
  · rcases List.mem_append.1 hj with hj | hj
    · exact h.us j hj
    · rw [List.mem_singleton.1 hj]; exact ⟨hi, hUi⟩
/-- at the end: one less is carried -/
theorem fi_end {es : List Ed} {U : Nat → Bool} {f t : Nat} {l : List Nat} {q : Int} (h : FI es U f t l) (hb : ∀ v, balU es U v = q * (ind f v - ind t v)) (v : Nat) : balU es (lessU U l) v = (q - 1) * (ind f v - ind t v) := by
  rw [fi_bal h hb, Int.sub_mul]
  omega
/-- the two that are followed one behind the other share no edge -/
theorem fi_two {es : List Ed} {U : Nat → Bool} {f t : Nat} {A B : List Nat} (hA : FI es U f t A) (hB : FI es (lessU U A) f t B) : (A ++ B).Nodup ∧ ∀ i ∈ A ++ B, U i = true := by
  constructor
  · rw [List.nodup_append]
    refine ⟨hA.nd, hB.nd, fun a ha b hb e => ?_⟩
    subst e
    have := (hB.us a hb).2
    simp [lessU, ha] at this
  · intro i hi
    rcases List.mem_append.1 hi with hi | hi
    · exact (hA.us i hi).2
    · have := (hB.us i hi).2
      simp [lessU] at this
      exact this.1
theorem wkl_ep {es : List Ed} {t : Nat} : ∀ {l : List Nat} {u : Nat}, WkL es u l t → (plc es u l).Nodup → (∀ i ∈ l, 0 ≤ (edN es i).u) → EP es t u l
  | [], u, h, _, _ => h
  | i :: l, u, h, hd, hz => by
    rw [plc] at hd
    have hd2 := List.nodup_cons.1 hd
    have hu := h.2.1
    unfold eu at hu
    have hz0 := hz i List.mem_cons_self
    refine ⟨fun e => ?_, h.1, by omega, wkl_ep h.2.2 hd2.2 (fun j hj => hz j (List.mem_cons_of_mem _ hj))⟩
    have hlast : ∀ {m : List Nat} {y : Nat}, WkL es y m t → t ∈ plc es y m := by
      intro m
      induction m with
      | nil => intro y hy; have : y = t := hy; subst this; simp [plc]
      | cons j m ih => intro y hy; rw [plc]; exact List.mem_cons_of_mem _ (ih hy.2.2)
    have := hlast h.2.2
    rw [← e] at this
    exact hd2.1 this
theorem ep_wkl {es : List Ed} {t : Nat} : ∀ {l : List Nat} {u : Nat}, EP es t u l → WkL es u l t
  | [], u, h => h
  | i :: l, u, h => ⟨h.2.1, by unfold eu; rw [h.2.2.1]; simp, ep_wkl h.2.2.2⟩
end Go.Proofs.Ytcehdpeeaogpiaa

/-! Plain laws for two walks that share no edge: what the document says of them. No condition. -/
namespace Go.Proofs.Ytcehdpeeaogpiaa
open Go.RowKit
set_option linter.unusedSimpArgs false
set_option linter.unusedVariables false
def disjL (a b : List Nat) : Bool := !(a.any (fun i => decide (i ∈ b)))
theorem disjL_iff {a b : List Nat} : disjL a b = true ↔ ∀ i ∈ a, i ∉ b := by
  unfold disjL
  simp
/-- of one walk with some others -/
def twoI (es : List Ed) (a : List Nat) (o : Int) (bs : List (List Nat)) : Int := bs.foldl (fun o b => if disjL a b = true then min o (sumE es a + sumE es b) else o) o
def twoO (es : List Ed) (all : List (List Nat)) (o : Int) (la : List (List Nat)) : Int := la.foldl (fun o a => twoI es a o all) o
/-- what two of some walks that share no edge cost least -/
def twoF (es : List Ed) (all : List (List Nat)) : Int := twoO es all FAR all
theorem twoI_is (es : List Ed) (a : List Nat) : ∀ (bs : List (List Nat)) (o : Int), twoI es a o bs ≤ o ∧ (∀ b ∈ bs, disjL a b = true → twoI es a o bs ≤ sumE es a + sumE es b) ∧ (twoI es a o bs = o ∨ ∃ b ∈ bs, disjL a b = true ∧ twoI es a o bs = sumE es a + sumE es b)
  | [], o => ⟨Int.le_refl _, by simp, .inl rfl⟩
  | b :: bs, o => by
    unfold twoI
    rw [List.foldl_cons]
    by_cases hd : disjL a b = true
    · rw [if_pos hd]
      obtain ⟨h1, h2, h3⟩ := twoI_is es a bs (min o (sumE es a + sumE es b))
      unfold twoI at h1 h2 h3
      refine ⟨by omega, fun c hc hdc => ?_, ?_⟩
      · rcases List.mem_cons.1 hc with rfl | hc
        · omega
        · exact h2 c hc hdc
      · rcases h3 with h3 | ⟨c, hc, h4, h5⟩
        · rcases Int.le_total o (sumE es a + sumE es b) with h6 | h6
          · left; rw [h3]; omega
          · right; exact ⟨b, List.mem_cons_self, hd, by rw [h3]; omega⟩
        · right; exact ⟨c, List.mem_cons_of_mem _ hc, h4, h5⟩
    · rw [if_neg hd]
      obtain ⟨h1, h2, h3⟩ := twoI_is es a bs o
      unfold twoI at h1 h2 h3
      refine ⟨h1, fun c hc hdc => ?_, ?_⟩
      · rcases List.mem_cons.1 hc with rfl | hc
        · exact absurd hdc hd
        · exact h2 c hc hdc
      · rcases h3 with h3 | ⟨c, hc, h4, h5⟩
        · exact .inl h3
        · right; exact ⟨c, List.mem_cons_of_mem _ hc, h4, h5⟩
theorem twoO_is (es : List Ed) (all : List (List Nat)) : ∀ (la : List (List Nat)) (o : Int), twoO es all o la ≤ o ∧ (∀ a ∈ la, ∀ b ∈ all, disjL a b = true → twoO es all o la ≤ sumE es a + sumE es b) ∧ (twoO es all o la = o ∨ ∃ a ∈ la, ∃ b ∈ all, disjL a b = true ∧ twoO es all o la = sumE es a + sumE es b)
  | [], o => ⟨Int.le_refl _, by simp, .inl rfl⟩
  | a :: la, o => by
    unfold twoO
    rw [List.foldl_cons]
    obtain ⟨h1, h2, h3⟩ := twoO_is es all la (twoI es a o all)
    unfold twoO at h1 h2 h3
    obtain ⟨g1, g2, g3⟩ := twoI_is es a all o
    refine ⟨by omega, fun c hc b hb hd => ?_, ?_⟩
    · rcases List.mem_cons.1 hc with rfl | hc
      · have := g2 b hb hd; omega
      · exact h2 c hc b hb hd
    · rcases h3 with h3 | ⟨c, hc, b, hb, h4, h5⟩
      · rcases g3 with g3 | ⟨b, hb, g4, g5⟩
        · left; rw [h3, g3]
        · right; exact ⟨a, List.mem_cons_self, b, hb, g4, by rw [h3, g5]⟩
      · right; exact ⟨c, List.mem_cons_of_mem _ hc, b, hb, h4, h5⟩
/-- these two are the cheapest -/
theorem twoF_is {es : List Ed} {all : List (List Nat)} {A B : List Nat} (hA : A ∈ all) (hB : B ∈ all) (hd : disjL A B = true) (hlt : sumE es A + sumE es B < FAR) (hmin : ∀ a ∈ all, ∀ b ∈ all, disjL a b = true → sumE es A + sumE es B ≤ sumE es a + sumE es b) : twoF es all = sumE es A + sumE es B := by
  obtain ⟨h1, h2, h3⟩ := twoO_is es all all FAR
  have h4 := h2 A hA B hB hd
  unfold twoF
  rcases h3 with h3 | ⟨a, ha, b, hb, h5, h6⟩
  · omega
  · have := hmin a ha b hb h5
    omega
/-- there are none -/
theorem twoF_none {es : List Ed} {all : List (List Nat)} (h : ∀ a ∈ all, ∀ b ∈ all, disjL a b = true → False) : twoF es all = FAR := by
  obtain ⟨h1, h2, h3⟩ := twoO_is es all all FAR
  unfold twoF
  rcases h3 with h3 | ⟨a, ha, b, hb, h5, h6⟩
  · exact h3
  · exact (h a ha b hb h5).elim
/-- what two walks cost on the cheapest edges -/
def costTwoF (es : List Ed) (n : Nat) (p q : List Int) : Int := isum n (fun u => isum n (fun v => ((srt ((btw es u v).map (ec es))).take (min (btw es u v).length (stA p u v + stA q u v).toNat)).sum))
theorem costTwo_is {es : List Ed} {n f t : Nat} {π : Nat → Int} {U : Nat → Bool} {A B : List Nat} (hes : Right n es) (ho : Opt es π U) (hA : WkL es f A t) (hB : WkL es f B t) (hd : (A ++ B).Nodup) (hU : ∀ i, i < es.length → (U i = true ↔ i ∈ A ++ B)) : costTwoF es n (NI (plc es f A)) (NI (plc es f B)) = costU es U := by
  have hl : ∀ i ∈ A ++ B, i < es.length := fun i hi => by
    rcases List.mem_append.1 hi with hi | hi
    · exact wkl_lt hA i hi
    · exact wkl_lt hB i hi
  rw [← btw_all (right_ends hes) U]
  unfold costTwoF
  refine isum_congr (fun u _ => isum_congr (fun v _ => ?_))
  have h1 := btw_steps hd hl hU u v
  have h2 : (stA (NI (plc es f A)) u v + stA (NI (plc es f B)) u v).toNat = ((btw es u v).filter U).length := by
    rw [stA_plc u v hA, stA_plc u v hB, h1]
    omega
  rw [h2, Nat.min_eq_right (List.length_filter_le _ _)]
  exact btw_least ho u v
/-- they are apart -/
theorem apart_is {es : List Ed} {n f t : Nat} {U : Nat → Bool} {A B : List Nat} (hes : Right n es) (hA : WkL es f A t) (hB : WkL es f B t) (hd : (A ++ B).Nodup) (hU : ∀ i, i < es.length → (U i = true ↔ i ∈ A ++ B)) : ApartA n es (NI (plc es f A)) (NI (plc es f B)) := by
  intro u v _ _
  have hl : ∀ i ∈ A ++ B, i < es.length := fun i hi => by
    rcases List.mem_append.1 hi with hi | hi
    · exact wkl_lt hA i hi
    · exact wkl_lt hB i hi
  have h1 := btw_steps hd hl hU u v
  have h2 := List.length_filter_le U (btw es u v)
  rw [stA_plc u v hA, stA_plc u v hB, btw_count es u v hes]
  omega
end Go.Proofs.Ytcehdpeeaogpiaa

/-! Arcs in memory (twin): what a slice of them holds. No condition. -/
namespace Go.Proofs.Ytcehdpeeaogpiaa
open Go.RowKit
set_option linter.unusedSimpArgs false
set_option linter.unusedVariables false
/-- an arc: from, to, cost, the edge's number -/
structure Ac where
  u : Int
  v : Int
  c : Int
  e : Int
def encA (a : Ac) : List Value := [.int .i64 a.u, .int .i64 a.v, .int .i64 a.c, .int .i64 a.e]
theorem lenA (a : Ac) : (encA a).length = 4 := rfl
theorem oneA (a : Ac) : ∀ u ∈ encA a, u.oneCell' = true := by intro u hu; simp [encA] at hu; rcases hu with rfl | rfl | rfl | rfl <;> rfl
theorem newA (w : World) (t : TypeId) (x : Ac) (g : Nat) (hg : g = w.heap.size) : ∀ j u, (encA x)[j]? = some u → (w.alloc (.cells #[.int .i64 x.u, .int .i64 x.v, .int .i64 x.c, .int .i64 x.e] t)).cell? ((⟨g, 0, none⟩ : Addr).add j) = some u := by
  intro j u hj; subst hg
  match j, hj with
  | 0, hj => simp [encA] at hj; subst hj; simp [Addr.add]
  | 1, hj => simp [encA] at hj; subst hj; simp [WideShapes.add_plain]
  | 2, hj => simp [encA] at hj; subst hj; simp [WideShapes.add_plain]
  | 3, hj => simp [encA] at hj; subst hj; simp [WideShapes.add_plain]
theorem info_arc : (Try.prog.info? 238).map (fun i => (i.zero, i.size, i.bytes)) = some (some (.agg #[.int .i64 0, .int .i64 0, .int .i64 0, .int .i64 0]), 4, 32) := by kernel_rfl
theorem Own.getA {e : TypeId} {w : World} {base : Nat} {xs : List Ac} {g n c : Nat} (h : Own encA 4 e w base (.slice (some ⟨g, 0, none⟩) n c) xs) (i : Nat) (hi : i < xs.length) :
    w.cell? ⟨g, i * 4, none⟩ = some (.int .i64 xs[i].u) ∧ w.cell? ⟨g, i * 4 + 1, none⟩ = some (.int .i64 xs[i].v) ∧ w.cell? ⟨g, i * 4 + 2, none⟩ = some (.int .i64 xs[i].c) ∧ w.cell? ⟨g, i * 4 + 3, none⟩ = some (.int .i64 xs[i].e) :=
  ⟨by simpa using h.get lenA i hi 0 _ rfl, h.get lenA i hi 1 _ rfl, h.get lenA i hi 2 _ rfl, h.get lenA i hi 3 _ rfl⟩
/-- arc number i as it lies -/
def acN (es : List Ed) (U : Nat → Bool) (i : Nat) : Ac := ⟨((arcN es U i).u : Int), ((arcN es U i).v : Int), (arcN es U i).c, (i : Int)⟩
end Go.Proofs.Ytcehdpeeaogpiaa
