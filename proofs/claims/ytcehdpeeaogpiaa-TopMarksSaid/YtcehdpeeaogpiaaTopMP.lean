/-
  Guesses that agree: a search with them comes to the least cost; what it looks from, guessed exactly, lies on a least way. No program here.
-/
import Derived.Test.YtcehdpeeaogpiaaStarPC
import Derived.Test.YtcehdpeeaogpiaaWayP
import Derived.Test.YtcehdpeeaogpiaaStart
namespace Go.Proofs.Ytcehdpeeaogpiaa
set_option linter.unusedSimpArgs false
set_option linter.unusedVariables false
/-- what a search may lean on: costs, guesses that agree and are not great -/
structure Agree (n tg : Nat) (E : List NE) (h : Nat → Int) : Prop where
  lt : ∀ e ∈ E, e.u < n ∧ e.v < n ∧ 1 ≤ e.c ∧ e.c ≤ 10000
  hb : ∀ v, 0 ≤ h v ∧ (h v = FAR ∨ h v ≤ 1000000)
  ht : h tg = 0
  he : ∀ e ∈ E, h e.u ≤ h e.v + e.c
def dst (n : Nat) (E : List NE) (a v : Nat) : Int := spread E (stF a) (n - 1) v
theorem dst_feas {n a : Nat} {E : List NE} (hE : ∀ e ∈ E, e.u < n ∧ e.v < n ∧ 1 ≤ e.c ∧ e.c ≤ 10000) (ha : a < n) : ∀ e ∈ E, dst n E a e.u < FAR → dst n E a e.v ≤ dst n E a e.u + e.c :=
  (spread_feas (fun e he => ⟨(hE e he).1, (hE e he).2.1, (hE e he).2.2.1⟩) ha).1
theorem dst_far (n a v : Nat) (E : List NE) : dst n E a v ≤ FAR := Int.le_trans (spread_le E (stF a) (n - 1) v) (stF_far a v)
theorem dst_at {n a v : Nat} {E : List NE} (h : dst n E a v < FAR) : At E (stF a) v (dst n E a v) := (spread_att E (stF a) (stF_far a) (n - 1) v).2 h
theorem dst_self {n a : Nat} {E : List NE} (hE : ∀ e ∈ E, e.u < n ∧ e.v < n ∧ 1 ≤ e.c ∧ e.c ≤ 10000) (ha : a < n) : dst n E a a = 0 := by
  have h1 := (spread_feas (fun e he => ⟨(hE e he).1, (hE e he).2.1, (hE e he).2.2.1⟩) ha).2 a ha
  have h2 := spread_le E (stF a) (n - 1) a
  rw [stF_self] at h2
  unfold dst
  omega
theorem dst_pos {n a : Nat} {E : List NE} (hE : ∀ e ∈ E, e.u < n ∧ e.v < n ∧ 1 ≤ e.c ∧ e.c ≤ 10000) (ha : a < n) (v : Nat) (hv : v < n) : 0 ≤ dst n E a v :=
  (spread_feas (fun e he => ⟨(hE e he).1, (hE e he).2.1, (hE e he).2.2.1⟩) ha).2 v hv
theorem dst_small {n a : Nat} {E : List NE} (hn : n ≤ 64) (hE : ∀ e ∈ E, e.u < n ∧ e.v < n ∧ 1 ≤ e.c ∧ e.c ≤ 10000) (v : Nat) : dst n E a v = FAR ∨ dst n E a v ≤ 640000 := by
  have h := spread_up (es := E) (K := 0) (d := stF a) (fun v => by unfold stF; split <;> omega) (fun e he => (hE e he).2.2.2) (by unfold FAR; omega) (n - 1) (by omega) v
  unfold dst
  rcases h with h | h
  · exact .inl h
  · right; omega
theorem dst_least {n a v : Nat} {E : List NE} (hE : ∀ e ∈ E, e.u < n ∧ e.v < n ∧ 1 ≤ e.c ∧ e.c ≤ 10000) (ha : a < n) {x : Int} (h : At E (stF a) v x) : dst n E a v ≤ x :=
  at_ge (fun e he hl => dst_feas hE ha e he hl) (fun v => spread_le E (stF a) (n - 1) v) h
/-- over a third place -/
theorem dst_tri {n a v z : Nat} {E : List NE} (hE : ∀ e ∈ E, e.u < n ∧ e.v < n ∧ 1 ≤ e.c ∧ e.c ≤ 10000) (ha : a < n) {y : Int} (h : At E (stF v) z y) : dst n E a z ≤ dst n E a v + y := by
  induction h with
  | base u h =>
    rw [stF_zero h, stF_self]; omega
  | step e x he h hx hy ih =>
    have h1 := (hE e he).2.2.1
    by_cases hu : dst n E a e.u < FAR
    · have := dst_feas hE ha e he hu
      omega
    · have := dst_far n a e.v E
      omega
/-- what holds of a search at each step -/
structure AInv (n fr tg : Nat) (E : List NE) (h : Nat → Int) (s : SR) : Prop where
  cb : ∀ v, s.cost v ≤ FAR
  real : ∀ v, s.cost v < FAR → At E (stF fr) v (s.cost v)
  own : ∀ v ∈ s.ord, s.cost v = dst n E fr v ∧ v < n
  out : ∀ e ∈ E, e.u ∈ s.ord → h e.v ≠ FAR → s.cost e.v ≤ s.cost e.u + e.c
  src : s.cost fr = 0
  notT : tg ∉ s.ord
  on : dst n E fr tg < FAR → ∀ v ∈ s.ord, dst n E fr v + h v ≤ dst n E fr tg
theorem wait_or {n fr tg : Nat} {E : List NE} {h : Nat → Int} {s : SR} (hA : Agree n tg E h) (hI : AInv n fr tg E h s) (hfr : fr < n) (hhf : h fr ≠ FAR) {z : Nat} {x : Int} (hz : At E (stF fr) z x) (hx : x ≤ 700000) (hhz : h z ≠ FAR) :
    (z ∈ s.ord ∧ s.cost z ≤ x) ∨ ∃ y, Waits n s y ∧ s.cost y + h y ≤ x + h z := by
  induction hz with
  | base v hv =>
    obtain rfl := stF_zero hv
    rw [stF_self]
    by_cases ho : v ∈ s.ord
    · exact .inl ⟨ho, by rw [hI.src]; omega⟩
    · exact .inr ⟨v, ⟨hfr, by rw [hI.src]; unfold FAR; omega, ho⟩, by rw [hI.src]; omega⟩
  | step e x he hu hxF hy ih =>
    have hc := hA.lt e he
    have hev := hA.hb e.v
    have heu := hA.hb e.u
    have hcon := hA.he e he
    have hhu : h e.u ≠ FAR := by
      rcases hev.2 with h1 | h1
      · exact absurd h1 hhz
      · intro h2; rw [h2] at hcon; unfold FAR at hcon; omega
    rcases ih (by omega) hhu with ⟨h1, h2⟩ | ⟨y, h1, h2⟩
    · have h3 := hI.out e he h1 hhz
      by_cases ho : e.v ∈ s.ord
      · exact .inl ⟨ho, by omega⟩
      · exact .inr ⟨e.v, ⟨hc.2.1, by unfold FAR; omega, ho⟩, by omega⟩
    · exact .inr ⟨y, h1, by omega⟩
theorem keyA_next {n : Nat} {h : Nat → Int} {s : SR} {v y : Nat} (hn : IsNext (fun c g => c + g) h n s v) (hy : Waits n s y) : s.cost v + h v ≤ s.cost y + h y := by
  have h0 := hn.2 y hy
  simp only [plLt, plOf] at h0
  have h1 := of_decide_eq_false h0
  refine Classical.byContradiction fun h2 => h1 (.inl ?_)
  omega
theorem next_least {n fr tg : Nat} {E : List NE} {h : Nat → Int} {s : SR} (hn64 : n ≤ 64) (hA : Agree n tg E h) (hI : AInv n fr tg E h s) (hfr : fr < n) (htg : tg < n) (hhf : h fr ≠ FAR) (hWF : ∀ v, Waits n s v → h v ≠ FAR) {v : Nat} (hn : IsNext (fun c g => c + g) h n s v) :
    s.cost v = dst n E fr v ∧ (dst n E fr tg < FAR → dst n E fr v + h v ≤ dst n E fr tg) := by
  have hw := hn.1
  have h1 := dst_least hA.lt hfr (hI.real v hw.2.1)
  have h2 : dst n E fr v < FAR := by have := hw.2.1; omega
  have hsm : ∀ u, dst n E fr u < FAR → dst n E fr u ≤ 700000 := fun u hu => by
    rcases dst_small (a := fr) hn64 hA.lt u with h3 | h3
    · omega
    · omega
  have hcost : s.cost v = dst n E fr v := by
    rcases wait_or hA hI hfr hhf (dst_at h2) (hsm v h2) (hWF v hw) with ⟨h3, _⟩ | ⟨y, h3, h4⟩
    · exact absurd h3 hw.2.2
    · have := keyA_next hn h3
      omega
  refine ⟨hcost, fun ht => ?_⟩
  have htF : h tg ≠ FAR := by rw [hA.ht]; unfold FAR; omega
  rcases wait_or hA hI hfr hhf (dst_at ht) (hsm tg ht) htF with ⟨h3, _⟩ | ⟨y, h3, h4⟩
  · exact absurd h3 hI.notT
  · have := keyA_next hn h3
    rw [hA.ht] at h4
    omega
/-- edges looked at one after the other keep it, but for those still to come -/
structure AMid (n fr tg v : Nat) (E : List NE) (h : Nat → Int) (s : SR) (todo : List NE) : Prop where
  cb : ∀ v, s.cost v ≤ FAR
  real : ∀ v, s.cost v < FAR → At E (stF fr) v (s.cost v)
  own : ∀ v ∈ s.ord, s.cost v = dst n E fr v ∧ v < n
  out : ∀ e ∈ E, e.u ∈ s.ord → (e.u = v ∧ e ∈ todo) ∨ (h e.v ≠ FAR → s.cost e.v ≤ s.cost e.u + e.c)
  src : s.cost fr = 0
  inO : v ∈ s.ord
  fin : s.cost v < FAR
  hf : ∀ v, s.cost v < FAR → h v ≠ FAR
theorem amid_edge {n fr tg v : Nat} {E : List NE} {h : Nat → Int} {s : SR} {e : NE} {todo : List NE} (hA : Agree n tg E h) (hfr : fr < n) (hv : v < n) (hn64 : n ≤ 64) (hm : AMid n fr tg v E h s (e :: todo)) (he : e ∈ E) : AMid n fr tg v E h (sedge h v s e) todo := by
  have hc := hA.lt e he
  unfold sedge
  split
  · rename_i hq
    obtain ⟨q1, q2, q3, q4⟩ := hq
    have hvF := hm.fin
    have hne : ∀ u ∈ s.ord, u ≠ e.v := fun u hu e1 => q3 (e1 ▸ hu)
    have hvd := hm.own v hm.inO
    have hvs := dst_small (a := fr) hn64 hA.lt v
    have hcb := hm.cb e.v
    have hxF : s.cost v + e.c < FAR := by omega
    refine ⟨fun u => ?_, fun u hu => ?_, fun u hu => ?_, fun x hx hxo => ?_, ?_, hm.inO, ?_, fun u hu => ?_⟩
    · show upz s.cost e.v _ u ≤ FAR
      by_cases hu : u = e.v
      · subst hu; rw [upz_same]; omega
      · rw [upz_other _ _ hu]; exact hm.cb u
    · have hu' : upz s.cost e.v (s.cost v + e.c) u < FAR := hu
      show At E (stF fr) u (upz s.cost e.v (s.cost v + e.c) u)
      by_cases hu2 : u = e.v
      · subst hu2
        rw [upz_same]
        have h1 := hm.real v hm.fin
        rw [← q1] at h1 ⊢
        exact At.step e _ he h1 (by rw [q1]; exact hm.fin) (by rw [q1]; exact hxF)
      · rw [upz_other _ _ hu2] at hu' ⊢
        exact hm.real u hu'
    · show upz s.cost e.v _ u = _ ∧ _
      rw [upz_other _ _ (hne u hu)]
      exact hm.own u hu
    · show _ ∨ (h x.v ≠ FAR → upz s.cost e.v (s.cost v + e.c) x.v ≤ upz s.cost e.v (s.cost v + e.c) x.u + x.c)
      rw [upz_other _ _ (hne x.u hxo)]
      rcases hm.out x hx hxo with ⟨h1, h2⟩ | h2
      · rcases List.mem_cons.1 h2 with rfl | h2
        · right
          intro _
          rw [upz_same, h1]
          exact Int.le_refl _
        · exact .inl ⟨h1, h2⟩
      · right
        intro h3
        have h4 := h2 h3
        by_cases hxv : x.v = e.v
        · rw [hxv, upz_same]
          rw [hxv] at h4
          omega
        · rw [upz_other _ _ hxv]; exact h4
    · show upz s.cost e.v _ fr = 0
      by_cases hf : fr = e.v
      · exfalso
        have h1 := hm.src
        rw [hf] at h1
        have h2 := dst_pos hA.lt hfr v hv
        omega
      · rw [upz_other _ _ hf]; exact hm.src
    · show upz s.cost e.v _ v < FAR
      rw [upz_other _ _ (hne v hm.inO)]; exact hm.fin
    · have hu' : upz s.cost e.v (s.cost v + e.c) u < FAR := hu
      by_cases hu2 : u = e.v
      · subst hu2; exact q2
      · rw [upz_other _ _ hu2] at hu'
        exact hm.hf u hu'
  · rename_i hq
    refine ⟨hm.cb, hm.real, hm.own, fun x hx hxo => ?_, hm.src, hm.inO, hm.fin, hm.hf⟩
    rcases hm.out x hx hxo with ⟨h1, h2⟩ | h2
    · rcases List.mem_cons.1 h2 with rfl | h2
      · right
        intro h3
        by_cases ho : x.v ∈ s.ord
        · have h4 := hm.own x.v ho
          have h5 := hm.own x.u hxo
          have h6 := dst_feas hA.lt hfr x hx (by rw [← h5.1, h1]; exact hm.fin)
          rw [h4.1, h5.1]
          exact h6
        · rw [h1]
          refine Classical.byContradiction fun h4 => hq ⟨h1, h3, ho, by omega⟩
      · exact .inl ⟨h1, h2⟩
    · exact .inr h2
theorem amid_fold {n fr tg v : Nat} {E : List NE} {h : Nat → Int} (hA : Agree n tg E h) (hfr : fr < n) (hv : v < n) (hn64 : n ≤ 64) : ∀ (l : List NE) (s : SR), (∀ e ∈ l, e ∈ E) → AMid n fr tg v E h s l → AMid n fr tg v E h (l.foldl (sedge h v) s) []
  | [], s, _, hm => hm
  | e :: r, s, hl, hm => amid_fold hA hfr hv hn64 r _ (fun x hx => hl x (List.mem_cons_of_mem _ hx)) (amid_edge hA hfr hv hn64 hm (hl e (List.mem_cons_self ..)))
theorem sfold_ord {h : Nat → Int} {v : Nat} : ∀ (l : List NE) (s : SR), (l.foldl (sedge h v) s).ord = s.ord
  | [], s => rfl
  | e :: r, s => by
    rw [List.foldl_cons, sfold_ord r]
    unfold sedge
    split <;> rfl
/-- what a search with guesses that agree comes to -/
theorem agree_run {n fr tg : Nat} {E : List NE} {h : Nat → Int} (hn64 : n ≤ 64) (hA : Agree n tg E h) (hfr : fr < n) (htg : tg < n) (hhf : h fr ≠ FAR) {s : SR} {o : Option SR} (hr : SRun (fun c g => c + g) E h n tg s o) (hI : AInv n fr tg E h s) (hf : ∀ v, s.cost v < FAR → h v ≠ FAR) :
    (o = none ∧ dst n E fr tg = FAR) ∨ ∃ s1, o = some s1 ∧ dst n E fr tg < FAR ∧ s1.cost tg = dst n E fr tg ∧ ∀ v ∈ s1.ord, v < n ∧ dst n E fr v + h v ≤ dst n E fr tg := by
  have htF : h tg ≠ FAR := by rw [hA.ht]; unfold FAR; omega
  induction hr with
  | none s hw =>
    left
    refine ⟨rfl, ?_⟩
    refine Classical.byContradiction fun hne => ?_
    have hlt : dst n E fr tg < FAR := by have := dst_far n fr tg E; omega
    have hs := dst_small (a := fr) hn64 hA.lt tg
    rcases wait_or hA hI hfr hhf (dst_at hlt) (by omega) htF with ⟨h1, _⟩ | ⟨y, h1, _⟩
    · exact hI.notT h1
    · exact hw y h1
  | hit s hn =>
    right
    obtain ⟨h1, h2⟩ := next_least hn64 hA hI hfr htg hhf (fun v hv => hf v hv.2.1) hn
    have hlt : dst n E fr tg < FAR := by rw [← h1]; exact hn.1.2.1
    refine ⟨_, rfl, hlt, h1, fun v hv => ?_⟩
    rcases List.mem_append.1 hv with hv | hv
    · exact ⟨(hI.own v hv).2, hI.on hlt v hv⟩
    · simp at hv; subst hv
      exact ⟨htg, h2 hlt⟩
  | step s v o hn hv hr ih =>
    obtain ⟨h1, h2⟩ := next_least hn64 hA hI hfr htg hhf (fun v hv => hf v hv.2.1) hn
    have hvn := hn.1.1
    have hm0 : AMid n fr tg v E h (look1 s v) E := by
      refine ⟨hI.cb, hI.real, fun u hu => ?_, fun e he heo => ?_, hI.src, by simp [look1], hn.1.2.1, hf⟩
      · rcases List.mem_append.1 hu with hu | hu
        · exact hI.own u hu
        · simp at hu; subst hu; exact ⟨h1, hvn⟩
      · rcases List.mem_append.1 heo with heo | heo
        · exact .inr (hI.out e he heo)
        · simp at heo; exact .inl ⟨heo, he⟩
    have hm := amid_fold hA hfr hvn hn64 E (look1 s v) (fun e he => he) hm0
    have hord : (expand E h v s).ord = s.ord ++ [v] := sfold_ord E (look1 s v)
    refine ih ⟨hm.cb, hm.real, hm.own, fun e he heo h3 => ?_, hm.src, ?_, fun ht u hu => ?_⟩ hm.hf
    · rcases hm.out e he heo with ⟨_, h4⟩ | h4
      · cases h4
      · exact h4 h3
    · rw [hord]
      intro hc
      rcases List.mem_append.1 hc with hc | hc
      · exact hI.notT hc
      · simp at hc; exact hv hc.symm
    · rw [hord] at hu
      rcases List.mem_append.1 hu with hu | hu
      · exact hI.on ht u hu
      · simp at hu; subst hu; exact h2 ht
theorem ainv_start {n fr tg : Nat} {E : List NE} {h : Nat → Int} : AInv n fr tg E h ⟨upz (fun _ => FAR) fr 0, fun _ => -1, []⟩ := by
  have hst : upz (fun _ => FAR) fr (0 : Int) = stF fr := stF_upz fr
  refine ⟨fun v => ?_, fun v hv => ?_, fun v hv => by simp at hv, fun e he heo => by simp at heo, (show upz (fun _ => FAR) fr (0 : Int) fr = 0 from upz_same _ _ _), by simp, fun _ v hv => by simp at hv⟩
  · show upz (fun _ => FAR) fr 0 v ≤ FAR
    rw [hst]; exact stF_far fr v
  · have hv' : upz (fun _ => FAR) fr 0 v < FAR := hv
    show At E (stF fr) v (upz (fun _ => FAR) fr 0 v)
    rw [hst] at hv' ⊢
    exact At.base v hv'
end Go.Proofs.Ytcehdpeeaogpiaa
