/-
  A search by taste: what it does, whoever does it. No program here.
-/
import Derived.Test.YtcehdpeeaogpiaaStarW
namespace Go.Proofs.Ytcehdpeeaogpiaa
set_option linter.unusedSimpArgs false
set_option linter.unusedVariables false
/-- costs so far, where each was come to from, the places that wait, the places looked from -/
structure FR where
  cost : Nat → Int
  pred : Nat → Int
  wt : Nat → Bool
  ord : List Nat
def fsum (h : Nat → Int) (s : FR) (v : Nat) : Int := s.cost v + h v
/-- a place by its taste -/
def tpl (taste h : Nat → Int) (s : FR) (v : Nat) : Ed := ⟨taste v, fsum h s v, (v : Int)⟩
/-- one edge looked at from v -/
def fedge (h : Nat → Int) (v : Nat) (s : FR) (e : NE) : FR := if e.u = v ∧ h e.v ≠ FAR ∧ s.cost v + e.c < s.cost e.v then { s with cost := upz s.cost e.v (s.cost v + e.c), pred := upz s.pred e.v (v : Int), wt := upz s.wt e.v true } else s
def flook (s : FR) (v : Nat) : FR := { s with wt := upz s.wt v false, ord := s.ord ++ [v] }
def fexpand (E : List NE) (h : Nat → Int) (v : Nat) (s : FR) : FR := E.foldl (fedge h v) (flook s v)
def Least (h : Nat → Int) (n : Nat) (s : FR) (m : Int) : Prop := (∃ v, v < n ∧ s.wt v = true ∧ fsum h s v = m) ∧ ∀ v, v < n → s.wt v = true → m ≤ fsum h s v
def Adm (h : Nat → Int) (r : P2) (s : FR) (m : Int) (v : Nat) : Prop := s.wt v = true ∧ r.b * fsum h s v ≤ r.a * m
/-- the one to look from -/
def Pick (h taste : Nat → Int) (r : P2) (n : Nat) (s : FR) (v : Nat) : Prop := ∃ m, Least h n s m ∧ v < n ∧ Adm h r s m v ∧ ∀ u, u < n → Adm h r s m u → plLt (tpl taste h s u) (tpl taste h s v) = false
inductive FOut where
  | none
  | steps
  | found (s : FR)
inductive FRun (E : List NE) (h taste : Nat → Int) (r : P2) (n tg st : Nat) : FR → FOut → Prop
  | none (s : FR) (hw : ∀ v, v < n → s.wt v = false) : FRun E h taste r n tg st s .none
  | steps (s : FR) (v : Nat) (hp : Pick h taste r n s v) (hs : st ≤ s.ord.length) : FRun E h taste r n tg st s .steps
  | hit (s : FR) (hp : Pick h taste r n s tg) (hs : s.ord.length < st) : FRun E h taste r n tg st s (.found (flook s tg))
  | step (s : FR) (v : Nat) (o : FOut) (hp : Pick h taste r n s v) (hs : s.ord.length < st) (hv : v ≠ tg) (hr : FRun E h taste r n tg st (fexpand E h v s) o) : FRun E h taste r n tg st s o
theorem least_one {h : Nat → Int} {n : Nat} {s : FR} {m k : Int} (hm : Least h n s m) (hk : Least h n s k) : m = k := by
  obtain ⟨⟨u, hu1, hu2, hu3⟩, h1⟩ := hm
  obtain ⟨⟨v, hv1, hv2, hv3⟩, h2⟩ := hk
  have := h1 v hv1 hv2
  have := h2 u hu1 hu2
  omega
theorem pick_one {h taste : Nat → Int} {r : P2} {n : Nat} {s : FR} {u v : Nat} (hu : Pick h taste r n s u) (hv : Pick h taste r n s v) : u = v := by
  obtain ⟨m, a1, a2, a3, a4⟩ := hu
  obtain ⟨k, b1, b2, b3, b4⟩ := hv
  obtain rfl := least_one a1 b1
  have := plLt_tot (b4 u a2 a3) (a4 v b2 b3)
  simp only [tpl, Ed.mk.injEq] at this
  omega
theorem pick_wt {h taste : Nat → Int} {r : P2} {n : Nat} {s : FR} {v : Nat} (hp : Pick h taste r n s v) : v < n ∧ s.wt v = true := by
  obtain ⟨m, a1, a2, a3, a4⟩ := hp
  exact ⟨a2, a3.1⟩
theorem frun_one {E : List NE} {h taste : Nat → Int} {r : P2} {n tg st : Nat} {s : FR} {o p : FOut} (ho : FRun E h taste r n tg st s o) (hp : FRun E h taste r n tg st s p) : o = p := by
  have hno : ∀ {s : FR} {v : Nat}, (∀ v, v < n → s.wt v = false) → Pick h taste r n s v → False := fun hw hk => by
    have h1 := pick_wt hk
    rw [hw _ h1.1] at h1
    cases h1.2
  induction ho with
  | none s hw =>
    cases hp with
    | none _ _ => rfl
    | steps _ _ hk _ => exact (hno hw hk).elim
    | hit _ hk _ => exact (hno hw hk).elim
    | step _ _ _ hk _ _ _ => exact (hno hw hk).elim
  | steps s v hk hs =>
    cases hp with
    | none _ hw => exact (hno hw hk).elim
    | steps _ _ _ _ => rfl
    | hit _ _ h2 => omega
    | step _ _ _ _ h2 _ _ => omega
  | hit s hk hs =>
    cases hp with
    | none _ hw => exact (hno hw hk).elim
    | steps _ _ _ h2 => omega
    | hit _ _ _ => rfl
    | step _ _ _ hk2 _ hv _ => exact absurd (pick_one hk2 hk) hv
  | step s v o hk hs hv hr ih =>
    cases hp with
    | none _ hw => exact (hno hw hk).elim
    | steps _ _ _ h2 => omega
    | hit _ hk2 _ => exact absurd (pick_one hk hk2) hv
    | step _ u _ hk2 _ _ hr2 =>
      obtain rfl := pick_one hk hk2
      exact ih hr2
/-- what holds all along: bounds on the costs, ways that fall -/
structure FOk (n fr : Nat) (h : Nat → Int) (s : FR) : Prop where
  ordLt : ∀ v ∈ s.ord, v < n
  cb : ∀ v, s.cost v = FAR ∨ (0 ≤ s.cost v ∧ s.cost v ≤ 10000 * (s.ord.length : Int))
  wt : ∀ v, s.wt v = true → s.cost v < FAR ∧ h v ≠ FAR
  pr : ∀ v, s.cost v < FAR → s.pred v < 0 ∨ ∃ u : Nat, s.pred v = (u : Int) ∧ u < n ∧ s.cost u < FAR ∧ s.cost u < s.cost v
/-- while v's edges are looked at -/
structure FMid (n fr : Nat) (h : Nat → Int) (v : Nat) (s : FR) : Prop where
  ok : FOk n fr h s
  cv : 0 ≤ s.cost v ∧ s.cost v + 10000 ≤ 10000 * (s.ord.length : Int)
theorem fmid_start {n fr : Nat} {h : Nat → Int} {s : FR} (hs : FOk n fr h s) {v : Nat} (hv : v < n) (hw : s.wt v = true) : FMid n fr h v (flook s v) := by
  have h0 := (hs.wt v hw).1
  have hc := hs.cb v
  refine ⟨⟨fun u hu => ?_, fun u => ?_, fun u hu => ?_, fun u hu => hs.pr u hu⟩, ?_⟩
  · rcases List.mem_append.1 hu with h1 | h1
    · exact hs.ordLt u h1
    · simp at h1; subst h1; exact hv
  · rcases hs.cb u with h1 | h1
    · exact .inl h1
    · right
      simp only [flook, List.length_append, List.length_cons, List.length_nil]
      omega
  · by_cases huv : u = v
    · subst huv; simp [flook, upz_same] at hu
    · have : upz s.wt v false u = true := hu
      rw [upz_other _ _ huv] at this
      exact hs.wt u this
  · simp only [flook, List.length_append, List.length_cons, List.length_nil]
    omega
theorem fmid_edge {n fr : Nat} {h : Nat → Int} {v : Nat} {s : FR} (hs : FMid n fr h v s) (hvn : v < n) {e : NE} (he : 1 ≤ e.c ∧ e.c ≤ 10000) (hl : s.ord.length ≤ 100000) : FMid n fr h v (fedge h v s e) := by
  unfold fedge
  split
  · rename_i hc
    obtain ⟨h1, h2, h3⟩ := hc
    have hcv := hs.cv
    have hne : v ≠ e.v := fun e1 => by rw [← e1] at h3; omega
    have hvF : s.cost v < FAR := by unfold FAR; omega
    refine ⟨⟨hs.ok.ordLt, fun u => ?_, fun u hu => ?_, fun u hu => ?_⟩, ?_⟩
    · show upz s.cost e.v _ u = FAR ∨ (0 ≤ upz s.cost e.v _ u ∧ upz s.cost e.v _ u ≤ 10000 * (s.ord.length : Int))
      by_cases hu : u = e.v
      · subst hu
        rw [upz_same]
        right
        omega
      · rw [upz_other _ _ hu]
        exact hs.ok.cb u
    · show upz s.cost e.v _ u < FAR ∧ h u ≠ FAR
      have hu' : upz s.wt e.v true u = true := hu
      by_cases hu2 : u = e.v
      · subst hu2
        rw [upz_same]
        exact ⟨by unfold FAR; omega, h2⟩
      · rw [upz_other _ _ hu2] at hu' ⊢
        exact hs.ok.wt u hu'
    · have hu' : upz s.cost e.v (s.cost v + e.c) u < FAR := hu
      show upz s.pred e.v (v : Int) u < 0 ∨ ∃ z : Nat, upz s.pred e.v (v : Int) u = (z : Int) ∧ z < n ∧ upz s.cost e.v (s.cost v + e.c) z < FAR ∧ upz s.cost e.v (s.cost v + e.c) z < upz s.cost e.v (s.cost v + e.c) u
      by_cases hu2 : u = e.v
      · subst hu2
        right
        refine ⟨v, upz_same _ _ _, hvn, ?_, ?_⟩
        · rw [upz_other _ _ hne]; exact hvF
        · rw [upz_other _ _ hne, upz_same]; omega
      · rw [upz_other _ _ hu2] at hu' ⊢
        rw [upz_other _ _ hu2]
        rcases hs.ok.pr u hu' with h4 | ⟨z, z1, z2, z3, z4⟩
        · exact .inl h4
        · right
          refine ⟨z, z1, z2, ?_⟩
          by_cases hz : z = e.v
          · subst hz
            rw [upz_same]
            exact ⟨by omega, by omega⟩
          · rw [upz_other _ _ hz]
            exact ⟨z3, z4⟩
    · show 0 ≤ upz s.cost e.v _ v ∧ upz s.cost e.v _ v + 10000 ≤ 10000 * (s.ord.length : Int)
      rw [upz_other _ _ hne]
      exact hcv
  · exact hs
/-- a way up: none of its places twice -/
theorem fchain {n fr : Nat} {h : Nat → Int} {s : FR} (hs : FOk n fr h s) : ∀ (k : Nat) (v : Nat), v < n → s.cost v < FAR → s.cost v ≤ (k : Int) → ∃ l, Chain s.pred v l ∧ (∀ x ∈ l, x < n)
  | k, v, hv, hF, hk => by
    have hc := hs.cb v
    rcases hs.pr v hF with h1 | ⟨u, h1, h2, h3, h4⟩
    · exact ⟨[v], .top v h1, fun x hx => by simp at hx; subst hx; exact hv⟩
    · cases k with
      | zero =>
        have := hs.cb u
        unfold FAR at *
        omega
      | succ k =>
        obtain ⟨l, g1, g2⟩ := fchain hs k u h2 h3 (by omega)
        refine ⟨v :: l, .step v u l h1 g1, fun x hx => ?_⟩
        rcases List.mem_cons.1 hx with rfl | hx
        · exact hv
        · exact g2 x hx
theorem fway {n fr : Nat} {h : Nat → Int} {s : FR} (hs : FOk n fr h s) {v : Nat} (hv : v < n) (hF : s.cost v < FAR) : ∃ l, Chain s.pred v l ∧ l.length ≤ n ∧ ∀ x ∈ l, x < n := by
  obtain ⟨l, h1, h2⟩ := fchain hs (s.cost v).toNat v hv hF (by have := hs.cb v; omega)
  exact ⟨l, h1, nodup_shortS n l (chain_nodup h1) h2, h2⟩
/-- a place's own edges are enough -/
theorem ffold_own {h : Nat → Int} {v : Nat} : ∀ (E : List NE) (s : FR), E.foldl (fedge h v) s = (E.filter fun e => decide (e.u = v)).foldl (fedge h v) s
  | [], s => rfl
  | e :: r, s => by
    rw [List.foldl_cons, ffold_own r, List.filter_cons]
    by_cases he : e.u = v
    · simp [he]
    · have : fedge h v s e = s := by unfold fedge; rw [if_neg (fun hc => he hc.1)]
      simp [he, this]
/-- where it begins -/
def fStart (h : Nat → Int) (v : Nat) : FR := ⟨upz (fun _ => FAR) v 0, fun _ => -1, upz (fun _ => false) v (decide (h v ≠ FAR)), []⟩
theorem fok_start {n v : Nat} {h : Nat → Int} : FOk n v h (fStart h v) := by
  refine ⟨fun u hu => by simp [fStart] at hu, fun u => ?_, fun u hu => ?_, fun u hu => .inl (by simp [fStart])⟩
  · by_cases huv : u = v
    · subst huv; right; simp [fStart, upz_same]
    · left; show upz (fun _ => FAR) v 0 u = FAR; rw [upz_other _ _ huv]
  · have hu' : upz (fun _ => false) v (decide (h v ≠ FAR)) u = true := hu
    by_cases huv : u = v
    · subst huv
      rw [upz_same] at hu'
      refine ⟨?_, by simpa using hu'⟩
      show upz (fun _ => FAR) u 0 u < FAR
      rw [upz_same]; unfold FAR; omega
    · rw [upz_other _ _ huv] at hu'
      cases hu'
end Go.Proofs.Ytcehdpeeaogpiaa
