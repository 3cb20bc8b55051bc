/-
  Several texts in one:
  A search with keys: what it does, whoever does it; what its heap holds. No program here.
  The way up from a place by where each was come to from. No program here.
-/
import Derived.Test.YtcehdpeeaogpiaaHeapT
import Derived.Test.YtcehdpeeaogpiaaPlainB
/-! A search with keys: what it does, whoever does it; what its heap holds. No program here. -/
namespace Go.Proofs.Ytcehdpeeaogpiaa
set_option linter.unusedSimpArgs false
set_option linter.unusedVariables false
/-- costs so far, where each was come to from, the places looked from -/
structure SR where
  cost : Nat → Int
  pred : Nat → Int
  ord : List Nat
/-- a place that waits, with its key -/
def plOf (key : Int → Int → Int) (h : Nat → Int) (cost : Nat → Int) (v : Nat) : Ed := ⟨key (cost v) (h v), h v, (v : Int)⟩
def Waits (n : Nat) (s : SR) (v : Nat) : Prop := v < n ∧ s.cost v < FAR ∧ v ∉ s.ord
/-- one edge looked at from v -/
def sedge (h : Nat → Int) (v : Nat) (s : SR) (e : NE) : SR := if e.u = v ∧ h e.v ≠ FAR ∧ e.v ∉ s.ord ∧ s.cost v + e.c < s.cost e.v then { s with cost := upz s.cost e.v (s.cost v + e.c), pred := upz s.pred e.v (v : Int) } else s
def look1 (s : SR) (v : Nat) : SR := { s with ord := s.ord ++ [v] }
def expand (E : List NE) (h : Nat → Int) (v : Nat) (s : SR) : SR := E.foldl (sedge h v) (look1 s v)
/-- the next: before all that wait -/
def IsNext (key : Int → Int → Int) (h : Nat → Int) (n : Nat) (s : SR) (v : Nat) : Prop := Waits n s v ∧ ∀ u, Waits n s u → plLt (plOf key h s.cost u) (plOf key h s.cost v) = false
/-- what comes of it -/
inductive SRun (key : Int → Int → Int) (E : List NE) (h : Nat → Int) (n to : Nat) : SR → Option SR → Prop
  | none (s : SR) (hw : ∀ v, ¬ Waits n s v) : SRun key E h n to s none
  | hit (s : SR) (hn : IsNext key h n s to) : SRun key E h n to s (some (look1 s to))
  | step (s : SR) (v : Nat) (o : Option SR) (hn : IsNext key h n s v) (hv : v ≠ to) (hr : SRun key E h n to (expand E h v s) o) : SRun key E h n to s o
theorem plLt_tot {a b : Ed} (h1 : plLt a b = false) (h2 : plLt b a = false) : a = b := by
  simp only [plLt, decide_eq_false_iff_not] at h1 h2
  cases a; cases b
  simp only [Ed.mk.injEq] at *
  omega
theorem next_one {key : Int → Int → Int} {h : Nat → Int} {n : Nat} {s : SR} {u v : Nat} (hu : IsNext key h n s u) (hv : IsNext key h n s v) : u = v := by
  have := plLt_tot (hv.2 u hu.1) (hu.2 v hv.1)
  simp only [plOf, Ed.mk.injEq] at this
  omega
theorem srun_one {key : Int → Int → Int} {E : List NE} {h : Nat → Int} {n to : Nat} {s : SR} {o p : Option SR} (ho : SRun key E h n to s o) (hp : SRun key E h n to s p) : o = p := by
  induction ho with
  | none s hw =>
    cases hp with
    | none _ hw2 => rfl
    | hit _ hn => exact absurd hn.1 (hw _)
    | step _ v _ hn hv hr => exact absurd hn.1 (hw _)
  | hit s hn =>
    cases hp with
    | none _ hw => exact absurd hn.1 (hw _)
    | hit _ hn2 => rfl
    | step _ v _ hn2 hv hr => exact absurd (next_one hn2 hn) hv
  | step s v o hn hv hr ih =>
    cases hp with
    | none _ hw => exact absurd hn.1 (hw _)
    | hit _ hn2 => exact absurd (next_one hn hn2) hv
    | step _ u _ hn2 hv2 hr2 =>
      obtain rfl := next_one hn hn2
      exact ih hr2
/-- the costs so far: none yet, or no more than as many edges as places looked from -/
structure SOk (n from' : Nat) (h : Nat → Int) (s : SR) : Prop where
  nodup : s.ord.Nodup
  ordLt : ∀ v ∈ s.ord, v < n ∧ s.cost v < FAR
  cb : ∀ v, s.cost v = FAR ∨ (0 ≤ s.cost v ∧ s.cost v ≤ 10000 * (s.ord.length : Int))
  hf : ∀ v, s.cost v < FAR → h v ≠ FAR
theorem nodup_shortS : ∀ (n : Nat) (l : List Nat), l.Nodup → (∀ x ∈ l, x < n) → l.length ≤ n
  | 0, l, _, h => by
    cases l with
    | nil => simp
    | cons x r => have := h x (List.mem_cons_self ..); omega
  | n + 1, l, hd, h => by
    have h1 := nodup_shortS n (l.erase n) (hd.erase n) (fun x hx => by
      have h2 := (List.Nodup.mem_erase_iff hd).1 hx
      have := h x h2.2
      have := h2.1
      omega)
    rw [List.length_erase] at h1
    split at h1 <;> omega
theorem sok_len {n from' : Nat} {h : Nat → Int} {s : SR} (hs : SOk n from' h s) : s.ord.length ≤ n := nodup_shortS n s.ord hs.nodup (fun v hv => (hs.ordLt v hv).1)
theorem sok_look {n from' : Nat} {h : Nat → Int} {s : SR} (hs : SOk n from' h s) {v : Nat} (hw : Waits n s v) : SOk n from' h (look1 s v) := by
  refine ⟨?_, fun u hu => ?_, fun u => ?_, hs.hf⟩
  · exact List.nodup_append.2 ⟨hs.nodup, by simp, fun a ha b hb e => by simp at hb; subst hb; exact hw.2.2 (e ▸ ha)⟩
  · rcases List.mem_append.1 hu with h1 | h1
    · exact hs.ordLt u h1
    · simp at h1; subst h1; exact ⟨hw.1, hw.2.1⟩
  · rcases hs.cb u with h1 | h1
    · exact .inl h1
    · right
      simp only [look1, List.length_append, List.length_cons, List.length_nil]
      omega
/-- while v's edges are looked at: v was looked from last, its own cost is one edge less -/
structure SMid (n from' : Nat) (h : Nat → Int) (v : Nat) (s : SR) : Prop where
  ok : SOk n from' h s
  inO : v ∈ s.ord
  cv : 0 ≤ s.cost v ∧ s.cost v + 10000 ≤ 10000 * (s.ord.length : Int)
theorem smid_start {n from' : Nat} {h : Nat → Int} {s : SR} (hs : SOk n from' h s) {v : Nat} (hw : Waits n s v) : SMid n from' h v (look1 s v) := by
  refine ⟨sok_look hs hw, by simp [look1], ?_⟩
  have h1 := hw.2.1
  rcases hs.cb v with h2 | h2
  · omega
  · simp only [look1, List.length_append, List.length_cons, List.length_nil]
    omega
theorem smid_edge {n from' : Nat} {h : Nat → Int} {v : Nat} {s : SR} (hs : SMid n from' h v s) {e : NE} (he : 0 ≤ e.c ∧ e.c ≤ 10000) (hl : s.ord.length ≤ 64) : SMid n from' h v (sedge h v s e) := by
  unfold sedge
  split
  · rename_i hc
    obtain ⟨h1, h2, h3, h4⟩ := hc
    have hne : ∀ u ∈ s.ord, u ≠ e.v := fun u hu e1 => h3 (e1 ▸ hu)
    have hcv := hs.cv
    refine ⟨⟨hs.ok.nodup, fun u hu => ?_, fun u => ?_, fun u hu => ?_⟩, hs.inO, ?_⟩
    · refine ⟨(hs.ok.ordLt u hu).1, ?_⟩
      show upz s.cost e.v _ u < FAR
      rw [upz_other _ _ (hne u hu)]
      exact (hs.ok.ordLt u hu).2
    · show upz s.cost e.v _ u = FAR ∨ (0 ≤ upz s.cost e.v _ u ∧ upz s.cost e.v _ u ≤ 10000 * (s.ord.length : Int))
      by_cases hu : u = e.v
      · subst hu
        rw [upz_same]
        right
        omega
      · rw [upz_other _ _ hu]
        exact hs.ok.cb u
    · by_cases hu2 : u = e.v
      · subst hu2; exact h2
      · have : upz s.cost e.v (s.cost v + e.c) u < FAR := hu
        rw [upz_other _ _ hu2] at this
        exact hs.ok.hf u this
    · show 0 ≤ upz s.cost e.v _ v ∧ upz s.cost e.v _ v + 10000 ≤ 10000 * (s.ord.length : Int)
      rw [upz_other _ _ (hne v hs.inO)]
      exact hcv
  · exact hs
/-- what the heap holds -/
structure HHas (key : Int → Int → Int) (h : Nat → Int) (n : Nat) (s : SR) (X : List Ed) : Prop where
  ent : ∀ p ∈ X, ∃ v : Nat, v < n ∧ p.c = (v : Int) ∧ p.v = h v ∧ s.cost v < FAR ∧ key (s.cost v) (h v) ≤ p.u
  has : ∀ v, Waits n s v → plOf key h s.cost v ∈ X
theorem hhas_none {key : Int → Int → Int} {h : Nat → Int} {n : Nat} {s : SR} (hh : HHas key h n s []) : ∀ v, ¬ Waits n s v := fun v hv => by cases hh.has v hv
/-- taken: what was looked from, or is no longer so, falls away -/
theorem hhas_drop {key : Int → Int → Int} {h : Nat → Int} {n : Nat} {s : SR} {X X' : List Ed} {p : Ed} (hh : HHas key h n s X) (hp : (p :: X').Perm X) {v : Nat} (hc : p.c = (v : Int)) (hd : v ∈ s.ord ∨ key (s.cost v) (h v) < p.u) : HHas key h n s X' := by
  refine ⟨fun q hq => hh.ent q (hp.mem_iff.1 (List.mem_cons_of_mem _ hq)), fun u hu => ?_⟩
  rcases List.mem_cons.1 (hp.mem_iff.2 (hh.has u hu)) with h1 | h1
  · exfalso
    have h2 : u = v := by
      have : ((u : Nat) : Int) = p.c := by rw [← h1]; rfl
      omega
    subst h2
    rcases hd with h3 | h3
    · exact hu.2.2 h3
    · rw [← h1] at h3
      simp only [plOf] at h3
      omega
  · exact h1
/-- taken: else it is the next -/
theorem hhas_next {key : Int → Int → Int} {h : Nat → Int} {n : Nat} {s : SR} {X X' : List Ed} {p : Ed} (hh : HHas key h n s X) (hp : (p :: X').Perm X) (hm : ∀ q ∈ X, plLt q p = false) {v : Nat} (hc : p.c = (v : Int)) (hd : v ∉ s.ord) (hk : p.u ≤ key (s.cost v) (h v)) :
    IsNext key h n s v ∧ HHas key h n (look1 s v) X' := by
  obtain ⟨u, hu1, hu2, hu3, hu4, hu5⟩ := hh.ent p (hp.mem_iff.1 (List.mem_cons_self ..))
  obtain rfl : u = v := by omega
  have hpl : plOf key h s.cost u = p := by
    cases p
    simp only [plOf, Ed.mk.injEq] at *
    omega
  refine ⟨⟨⟨hu1, hu4, hd⟩, fun z hz => by rw [hpl]; exact hm _ (hh.has z hz)⟩, fun q hq => hh.ent q (hp.mem_iff.1 (List.mem_cons_of_mem _ hq)), fun z hz => ?_⟩
  have hz2 : z ∉ s.ord ∧ z ≠ u := by
    have := hz.2.2
    simp only [look1, List.mem_append, List.mem_singleton, not_or] at this
    exact this
  rcases List.mem_cons.1 (hp.mem_iff.2 (hh.has z ⟨hz.1, hz.2.1, hz2.1⟩)) with h1 | h1
  · exfalso
    have : ((z : Nat) : Int) = p.c := by rw [← h1]; rfl
    exact hz2.2 (by omega)
  · exact h1
/-- one more comes -/
theorem hhas_push {key : Int → Int → Int} {h : Nat → Int} {n : Nat} {s : SR} {X X' : List Ed} {u v : Nat} {c : Int} (hh : HHas key h n s X) (hu : u < n) (hc : c < s.cost u) (hF : s.cost u ≤ FAR) (hk : s.cost u < FAR → key c (h u) ≤ key (s.cost u) (h u))
    (hp : X'.Perm (X ++ [⟨key c (h u), h u, (u : Int)⟩])) : HHas key h n { s with cost := upz s.cost u c, pred := upz s.pred u (v : Int) } X' := by
  refine ⟨fun q hq => ?_, fun z hz => ?_⟩
  · rcases List.mem_append.1 (hp.mem_iff.1 hq) with h1 | h1
    · obtain ⟨z, h2, h3, h4, h5, h6⟩ := hh.ent q h1
      refine ⟨z, h2, h3, h4, ?_, ?_⟩
      · show upz s.cost u c z < FAR
        by_cases hz : z = u
        · subst hz; rw [upz_same]; omega
        · rw [upz_other _ _ hz]; exact h5
      · show key (upz s.cost u c z) (h z) ≤ q.u
        by_cases hz : z = u
        · subst hz; rw [upz_same]; exact Int.le_trans (hk h5) h6
        · rw [upz_other _ _ hz]; exact h6
    · simp only [List.mem_singleton] at h1
      subst h1
      refine ⟨u, hu, rfl, rfl, ?_, ?_⟩
      · show upz s.cost u c u < FAR
        rw [upz_same]; omega
      · show key (upz s.cost u c u) (h u) ≤ _
        rw [upz_same]; exact Int.le_refl _
  · refine hp.mem_iff.2 (List.mem_append.2 ?_)
    by_cases hzu : z = u
    · subst hzu
      right
      simp [plOf, upz_same]
    · left
      have h1 : upz s.cost u c z < FAR := hz.2.1
      rw [upz_other _ _ hzu] at h1
      have := hh.has z ⟨hz.1, h1, hz.2.2⟩
      simpa [plOf, upz_other _ _ hzu] using this
end Go.Proofs.Ytcehdpeeaogpiaa

/-! The way up from a place by where each was come to from. No program here. -/
namespace Go.Proofs.Ytcehdpeeaogpiaa
set_option linter.unusedSimpArgs false
set_option linter.unusedVariables false
/-- places as numbers -/
def LP (l : List Nat) : List Int := l.map fun (v : Nat) => (v : Int)
theorem lp_len (l : List Nat) : (LP l).length = l.length := by simp [LP]
inductive Chain (pred : Nat → Int) : Nat → List Nat → Prop
  | top (v : Nat) (h : pred v < 0) : Chain pred v [v]
  | step (v u : Nat) (l : List Nat) (h : pred v = (u : Int)) (hc : Chain pred u l) : Chain pred v (v :: l)
theorem chain_head {pred : Nat → Int} {v : Nat} {l : List Nat} (h : Chain pred v l) : ∃ t, l = v :: t := by
  cases h with
  | top _ h => exact ⟨[], rfl⟩
  | step _ u l h hc => exact ⟨l, rfl⟩
theorem chain_one {pred : Nat → Int} {v : Nat} {l m : List Nat} (h : Chain pred v l) (k : Chain pred v m) : l = m := by
  induction h generalizing m with
  | top v h =>
    cases k with
    | top _ _ => rfl
    | step _ u l h2 hc => omega
  | step v u l h hc ih =>
    cases k with
    | top _ h2 => omega
    | step _ u2 l2 h2 hc2 =>
      obtain rfl : u = u2 := by omega
      rw [ih hc2]
theorem chain_at {pred : Nat → Int} {v : Nat} {l : List Nat} (h : Chain pred v l) : ∀ x ∈ l, ∃ m, Chain pred x m ∧ m.length ≤ l.length ∧ (x ≠ v → m.length < l.length) := by
  induction h with
  | top v h =>
    intro x hx
    simp at hx
    subst hx
    exact ⟨[x], .top x h, Nat.le_refl _, fun h => absurd rfl h⟩
  | step v u l h hc ih =>
    intro x hx
    rcases List.mem_cons.1 hx with rfl | hx
    · exact ⟨x :: l, .step x u l h hc, Nat.le_refl _, fun h => absurd rfl h⟩
    · obtain ⟨m, h1, h2, _⟩ := ih x hx
      exact ⟨m, h1, by simp; omega, fun _ => by simp; omega⟩
theorem chain_nodup {pred : Nat → Int} {v : Nat} {l : List Nat} (h : Chain pred v l) : l.Nodup := by
  induction h with
  | top v h => simp
  | step v u l h hc ih =>
    refine List.nodup_cons.2 ⟨fun hv => ?_, ih⟩
    obtain ⟨m, h1, h2, _⟩ := chain_at hc v hv
    have h3 := chain_one h1 (.step v u l h hc)
    rw [h3] at h2
    simp at h2
    omega
theorem chain_keep {pred pred' : Nat → Int} {v : Nat} {l : List Nat} (h : Chain pred v l) (hk : ∀ x ∈ l, pred' x = pred x) : Chain pred' v l := by
  induction h with
  | top v h => exact .top v (by rw [hk v (by simp)]; exact h)
  | step v u l h hc ih => exact .step v u l (by rw [hk v (by simp)]; exact h) (ih (fun x hx => hk x (List.mem_cons_of_mem _ hx)))
/-- all that has a cost has a way up over what was looked from -/
def Ways (s : SR) : Prop := ∀ v, s.cost v < FAR → ∃ l, Chain s.pred v l ∧ ∀ x ∈ l.tail, x ∈ s.ord
theorem ways_look {s : SR} (h : Ways s) (v : Nat) : Ways (look1 s v) := fun u hu => by
  obtain ⟨l, h1, h2⟩ := h u hu
  exact ⟨l, h1, fun x hx => List.mem_append_left _ (h2 x hx)⟩
theorem ways_edge {s : SR} {h : Nat → Int} {v : Nat} {e : NE} (hs : Ways s) (hv : v ∈ s.ord) (hc : s.cost v < FAR) : Ways (sedge h v s e) := by
  unfold sedge
  split
  · rename_i hcc
    obtain ⟨h1, h2, h3, h4⟩ := hcc
    have hother : ∀ u l, u ≠ e.v → Chain s.pred u l → (∀ x ∈ l.tail, x ∈ s.ord) → Chain (upz s.pred e.v (v : Int)) u l := fun u l hu hl ht => by
      refine chain_keep hl fun x hx => upz_other _ _ ?_
      obtain ⟨t, rfl⟩ := chain_head hl
      rcases List.mem_cons.1 hx with rfl | hx
      · exact hu
      · intro e1; exact h3 (e1 ▸ ht x hx)
    intro u hu
    by_cases hue : u = e.v
    · subst hue
      obtain ⟨l, hl1, hl2⟩ := hs v hc
      refine ⟨e.v :: l, .step e.v v l (upz_same _ _ _) (hother v l (fun e1 => h3 (e1 ▸ hv)) hl1 hl2), fun x hx => ?_⟩
      obtain ⟨t, rfl⟩ := chain_head hl1
      rcases List.mem_cons.1 (show x ∈ v :: t from hx) with rfl | hx
      · exact hv
      · exact hl2 x hx
    · have hu2 : s.cost u < FAR := by
        have : upz s.cost e.v (s.cost v + e.c) u < FAR := hu
        rwa [upz_other _ _ hue] at this
      obtain ⟨l, hl1, hl2⟩ := hs u hu2
      exact ⟨l, hother u l hue hl1 hl2, hl2⟩
  · exact hs
/-- its length, its members -/
theorem ways_len {n from' : Nat} {h : Nat → Int} {s : SR} (hs : SOk n from' h s) {v : Nat} (hv : v < n) {l : List Nat} (hl : Chain s.pred v l) (ht : ∀ x ∈ l.tail, x ∈ s.ord) : l.length ≤ n ∧ ∀ x ∈ l, x < n := by
  have hm : ∀ x ∈ l, x < n := fun x hx => by
    obtain ⟨t, rfl⟩ := chain_head hl
    rcases List.mem_cons.1 hx with rfl | hx
    · exact hv
    · exact (hs.ordLt x (ht x hx)).1
  exact ⟨nodup_shortS n l (chain_nodup hl) hm, hm⟩
/-- a place's own edges are enough -/
theorem fold_own {h : Nat → Int} {v : Nat} : ∀ (E : List NE) (s : SR), E.foldl (sedge h v) s = (E.filter fun e => decide (e.u = v)).foldl (sedge h v) s
  | [], s => rfl
  | e :: r, s => by
    rw [List.foldl_cons, fold_own r, List.filter_cons]
    by_cases he : e.u = v
    · simp [he]
    · have : sedge h v s e = s := by unfold sedge; rw [if_neg (fun hc => he hc.1)]
      simp [he, this]
/-- a place come to for a cost -/
def sreach (h : Nat → Int) (s : SR) (u : Nat) (c fr : Int) : SR := if u ∉ s.ord ∧ h u ≠ FAR ∧ c < s.cost u then { s with cost := upz s.cost u c, pred := upz s.pred u fr } else s
theorem sreach_edge (h : Nat → Int) (s : SR) (v u : Nat) (c : Int) : sreach h s u (s.cost v + c) (v : Int) = sedge h v s ⟨v, u, c⟩ := by
  unfold sreach sedge
  by_cases h1 : u ∉ s.ord
  · by_cases h2 : h u = FAR
    · rw [if_neg (fun x => x.2.1 h2), if_neg (fun x => x.2.1 h2)]
    · by_cases h3 : s.cost v + c < s.cost u
      · rw [if_pos ⟨h1, h2, h3⟩, if_pos ⟨rfl, h2, h1, h3⟩]
      · rw [if_neg (fun x => h3 x.2.2), if_neg (fun x => h3 x.2.2.2)]
  · rw [if_neg (fun x => h1 x.1), if_neg (fun x => h1 x.2.2.1)]
theorem hhas_pred {key : Int → Int → Int} {h : Nat → Int} {n : Nat} {s : SR} {X : List Ed} (hh : HHas key h n s X) (p : Nat → Int) : HHas key h n { s with pred := p } X := ⟨hh.ent, hh.has⟩
end Go.Proofs.Ytcehdpeeaogpiaa
