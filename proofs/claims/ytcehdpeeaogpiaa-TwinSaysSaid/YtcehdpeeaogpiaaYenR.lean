/-
  Plain laws for the best ways (yen): the ways of a net. No condition.
-/
import Derived.Test.YtcehdpeeaogpiaaYenQ
import Derived.Test.YtcehdpeeaogpiaaWEdge
import Derived.Test.YtcehdpeeaogpiaaMinMax
import Derived.Test.YtcehdpeeaogpiaaWCost
import Derived.Test.YtcehdpeeaogpiaaWayE
namespace Go.Proofs.Ytcehdpeeaogpiaa
open Go.RowKit
set_option linter.unusedSimpArgs false
set_option linter.unusedVariables false
/-- neighbours on the list are joined by an edge -/
def Lnk (E : List NE) : List Nat → Prop
  | a :: b :: r => (∃ e ∈ E, e.u = a ∧ e.v = b) ∧ Lnk E (b :: r)
  | _ => True
/-- a way from s to t that comes to no place twice -/
structure Sim (E : List NE) (s t : Nat) (p : List Nat) : Prop where
  hd : ∃ r, p = s :: r
  last : p.getLast? = some t
  nd : p.Nodup
  lnk : Lnk E p
/-- what a way costs -/
def pcost (es : List Ed) : List Nat → Int
  | a :: b :: r => minE (a : Int) (b : Int) es + pcost es (b :: r)
  | _ => 0
/-- the ways of a net with their costs -/
def YW (es : List Ed) (s t : Nat) (x : Wy) : Prop := Sim (nes es) s t x.p ∧ x.c = pcost es x.p
theorem yw_ys (es : List Ed) (s t : Nat) : YS s (YW es s t) := by
  refine ⟨fun x hx => hx.1.hd, fun x y r hx hy e => ?_⟩
  have hr : r = [] := by
    apply Classical.byContradiction
    intro hne
    have h1 := hx.1.last
    have h2 := hy.1.last
    have h3 := hy.1.nd
    rw [e] at h2 h3
    rw [List.getLast?_append, List.getLast?_eq_some_getLast hne, Option.some_or] at h2
    have m1 : t ∈ x.p := List.mem_of_getLast? h1
    have m2 : t ∈ r := by simp only [Option.some.injEq] at h2; rw [← h2]; exact List.getLast_mem hne
    exact (List.nodup_append.1 h3).2.2 t m1 t m2 rfl
  rw [hr, List.append_nil] at e
  have hc : x.c = y.c := by rw [hx.2, hy.2, e]
  cases x; cases y; simp_all
theorem lnk_app {E : List NE} : ∀ {b r : List Nat} {v : Nat}, Lnk E (b ++ v :: r) → Lnk E (v :: r)
  | [], _, _, h => h
  | [a], _, _, h => h.2
  | a :: c :: b, r, v, h => lnk_app (b := c :: b) h.2
theorem lnk_pre {E : List NE} : ∀ {b r : List Nat}, Lnk E (b ++ r) → Lnk E b
  | [], _, _ => trivial
  | [a], _, _ => trivial
  | a :: c :: b, r, h => ⟨h.1, lnk_pre (b := c :: b) h.2⟩
theorem pcost_app {es : List Ed} : ∀ (b : List Nat) (v : Nat) (r : List Nat), pcost es (b ++ v :: r) = pcost es (b ++ [v]) + pcost es (v :: r)
  | [], v, r => by simp [pcost]
  | [a], v, r => by simp [pcost]
  | a :: c :: b, v, r => by
    have := pcost_app (es := es) (c :: b) v r
    simp only [List.cons_append, pcost] at this ⊢
    omega
/-- the least costs to t over some edges -/
structure DOk (R : List NE) (t : Nat) (D : Nat → Int) : Prop where
  pos : ∀ e ∈ R, 1 ≤ e.c
  nn : ∀ v, 0 ≤ D v
  zero : D t = 0
  feas : ∀ e ∈ R, D e.v < FAR → D e.u ≤ e.c + D e.v
  att : ∀ u, u ≠ t → D u < FAR → ∃ e ∈ R, e.u = u ∧ D e.v < FAR ∧ e.c + D e.v = D u
/-- a step on a best way -/
def Tgt (R : List NE) (D : Nat → Int) (u v : Nat) : Prop := D v < FAR ∧ ∃ e ∈ R, e.u = u ∧ e.v = v ∧ e.c + D v = D u
/-- the least step at each place, to the end -/
inductive Grd (R : List NE) (D : Nat → Int) (t : Nat) : Nat → List Nat → Prop
  | stop : Grd R D t t []
  | step {u v : Nat} {r : List Nat} : u ≠ t → Tgt R D u v → (∀ x, Tgt R D u x → v ≤ x) → Grd R D t v r → Grd R D t u (v :: r)
/-- a walk over some edges, with what it costs at least -/
def Wlk (R : List NE) : Nat → List Nat → Int → Prop
  | _, [], x => 0 ≤ x
  | u, v :: r, x => ∃ e ∈ R, e.u = u ∧ e.v = v ∧ Wlk R v r (x - e.c)
theorem grd_low {R : List NE} {t : Nat} {D : Nat → Int} (hD : DOk R t D) : ∀ (r : List Nat) (u : Nat) (x : Int), Wlk R u r x → (u :: r).getLast (by simp) = t → x < FAR → D u ≤ x
  | [], u, x, h, hl, _ => by simp at hl; rw [hl, hD.zero]; exact h
  | v :: r, u, x, ⟨e, he, h1, h2, h3⟩, hl, hx => by
    have hp := hD.pos e he
    have ih := grd_low hD r v (x - e.c) h3 (by simpa using hl) (by omega)
    have := hD.feas e he (by rw [h2]; omega)
    rw [h1, h2] at this
    omega
/-- of those that cost the least the greedy one is the first -/
theorem grd_first {R : List NE} {t : Nat} {D : Nat → Int} (hD : DOk R t D) {u : Nat} {g : List Nat} (hg : Grd R D t u g) : ∀ (r : List Nat), Wlk R u r (D u) → (u :: r).getLast (by simp) = t → (u :: r).Nodup → D u < FAR → cmpL g r ≤ 0 := by
  induction hg with
  | stop =>
    intro r _ hl hn _
    cases r with
    | nil => simp [cmpL]
    | cons v r => simp [cmpL]
  | @step u v g hu hv hm _ ih =>
    intro r hw hl hn hF
    cases r with
    | nil => simp at hl; exact absurd hl hu
    | cons x r =>
      obtain ⟨e, he, h1, h2, h3⟩ := hw
      have hp := hD.pos e he
      have g1 := grd_low hD r x _ h3 (by simpa using hl) (by omega)
      have g2 := hD.feas e he (by rw [h2]; omega)
      rw [h1, h2] at g2
      have hx : Tgt R D u x := ⟨by omega, e, he, h1, h2, by omega⟩
      have hle := hm x hx
      rw [cmpL]
      by_cases q1 : v < x
      · rw [if_pos q1]; omega
      · have : v = x := by omega
        subst this
        rw [if_neg (by omega), if_neg (by omega)]
        refine ih r ?_ (by simpa using hl) (List.nodup_cons.1 hn).2 hv.1
        have : D u - e.c = D v := by omega
        rw [← this]
        exact h3
theorem ex_least (P : Nat → Prop) : (∃ n, P n) → ∃ n, P n ∧ ∀ m, P m → n ≤ m := by
  rintro ⟨n, hn⟩
  induction n using Nat.strongRecOn with
  | _ n ih =>
    by_cases h : ∃ m, m < n ∧ P m
    · obtain ⟨m, h1, h2⟩ := h
      exact ih m h1 h2
    · exact ⟨n, hn, fun m hm => Nat.le_of_not_lt fun hl => h ⟨m, hl, hm⟩⟩
/-- there is one -/
theorem grd_is {R : List NE} {t : Nat} {D : Nat → Int} (hD : DOk R t D) : ∀ (k : Nat) (u : Nat), D u < FAR → (D u).toNat ≤ k → ∃ g, Grd R D t u g := by
  intro k
  induction k with
  | zero =>
    intro u hF hk
    by_cases hu : u = t
    · subst hu; exact ⟨[], .stop⟩
    · obtain ⟨e, he, h1, h2, h3⟩ := hD.att u hu hF
      have := hD.pos e he
      have := hD.nn e.v
      omega
  | succ k ih =>
    intro u hF hk
    by_cases hu : u = t
    · subst hu; exact ⟨[], .stop⟩
    · obtain ⟨e, he, h1, h2, h3⟩ := hD.att u hu hF
      obtain ⟨v, hv, hm⟩ := ex_least (Tgt R D u) ⟨e.v, h2, e, he, h1, rfl, h3⟩
      obtain ⟨hvF, e', he', g1, g2, g3⟩ := id hv
      have := hD.pos e' he'
      obtain ⟨g, hg⟩ := ih v hvF (by have := hD.nn v; omega)
      exact ⟨v :: g, .step hu hv hm hg⟩
/-- its places: ever nearer, joined by edges, to the end -/
theorem grd_path {R : List NE} {t : Nat} {D : Nat → Int} (hD : DOk R t D) {u : Nat} {g : List Nat} (hg : Grd R D t u g) : (∀ v ∈ g, D v < D u) ∧ (u :: g).Nodup ∧ (u :: g).getLast (by simp) = t ∧ Lnk R (u :: g) ∧ (∀ v ∈ g, ∃ e ∈ R, e.v = v) := by
  induction hg with
  | stop => simp [Lnk]
  | @step u v g hu hv hm _ ih =>
    obtain ⟨i1, i2, i3, i4, i5⟩ := ih
    obtain ⟨hvF, e, he, g1, g2, g3⟩ := hv
    have hp := hD.pos e he
    have hall : ∀ x ∈ v :: g, D x < D u := fun x hx => by
      rcases List.mem_cons.1 hx with rfl | hx
      · omega
      · have := i1 x hx; omega
    refine ⟨hall, List.nodup_cons.2 ⟨fun hx => by have := hall u hx; omega, i2⟩, by simpa using i3, ⟨⟨e, he, g1, g2⟩, i4⟩, fun x hx => ?_⟩
    rcases List.mem_cons.1 hx with rfl | hx
    · exact ⟨e, he, g2⟩
    · exact i5 x hx
/-- what the greedy way costs -/
theorem grd_cost {R : List NE} {t : Nat} {D : Nat → Int} {es : List Ed} (hD : DOk R t D) (hM : ∀ e ∈ R, ∃ e' ∈ R, e'.u = e.u ∧ e'.v = e.v ∧ e'.c = minE (e.u : Int) (e.v : Int) es ∧ e'.c ≤ e.c) {u : Nat} {g : List Nat} (hg : Grd R D t u g) : pcost es (u :: g) = D u := by
  induction hg with
  | stop => simp [pcost, hD.zero]
  | @step u v g hu hv hm _ ih =>
    obtain ⟨hvF, e, he, g1, g2, g3⟩ := hv
    obtain ⟨e', he', q1, q2, q3, q4⟩ := hM e he
    have hf := hD.feas e' he' (by rw [q2, g2]; exact hvF)
    rw [q1, q2, g1, g2] at hf
    rw [pcost, ih, ← g1, ← g2, ← q3]
    rw [g1, g2]
    omega
/-- a way's tail is a walk that costs what the way's tail costs -/
theorem wlk_of {R : List NE} {es : List Ed} : ∀ (r : List Nat) (u : Nat), (∀ (i : Nat) (a b : Nat), (u :: r)[i]? = some a → (u :: r)[i + 1]? = some b → ∃ e ∈ R, e.u = a ∧ e.v = b ∧ e.c = minE (a : Int) (b : Int) es) → Wlk R u r (pcost es (u :: r))
  | [], u, _ => by simp [Wlk, pcost]
  | v :: r, u, h => by
    obtain ⟨e, he, h1, h2, h3⟩ := h 0 u v rfl rfl
    refine ⟨e, he, h1, h2, ?_⟩
    have := wlk_of r v (fun i a b ha hb => h (i + 1) a b (by simpa using ha) (by simpa using hb))
    rw [pcost, h3]
    have e2 : minE (u : Int) (v : Int) es + pcost es (v :: r) - minE (u : Int) (v : Int) es = pcost es (v :: r) := by omega
    rw [e2]
    exact this
/-- the edges that a way may use that goes on from b0, u by none of no -/
def Kp (b0 : List Nat) (u : Nat) (no : Nat → Prop) (e : NE) : Prop := e.v ∉ b0 ++ [u] ∧ e.u ∉ b0 ∧ ¬ (e.u = u ∧ no e.v)
theorem lnk_get {E : List NE} : ∀ {p : List Nat} (i : Nat) {a b : Nat}, Lnk E p → p[i]? = some a → p[i + 1]? = some b → ∃ e ∈ E, e.u = a ∧ e.v = b
  | [], i, a, b, _, h, _ => by simp at h
  | [x], i, a, b, _, _, h => by simp at h
  | x :: y :: r, 0, a, b, hl, h1, h2 => by simp at h1 h2; subst h1 h2; exact hl.1
  | x :: y :: r, i + 1, a, b, hl, h1, h2 => lnk_get (p := y :: r) i hl.2 (by simpa using h1) (by simpa using h2)
/-- the steps of a way that goes on are steps over the rest -/
theorem onw_steps {es : List Ed} {R : List NE} {s t : Nat} {b0 : List Nat} {u : Nat} {no : Nat → Prop} (hR : ∀ e, e ∈ R ↔ e ∈ nes es ∧ Kp b0 u no e) (hm : ∀ e ∈ nes es, ∃ e' ∈ nes es, e'.u = e.u ∧ e'.v = e.v ∧ e'.c = minE (e.u : Int) (e.v : Int) es ∧ e'.c ≤ e.c)
    {v : Nat} {r : List Nat} (hS : Sim (nes es) s t (b0 ++ u :: v :: r)) (hv : ¬ no v) : ∀ (i : Nat) (a b : Nat), (u :: v :: r)[i]? = some a → (u :: v :: r)[i + 1]? = some b → ∃ e ∈ R, e.u = a ∧ e.v = b ∧ e.c = minE (a : Int) (b : Int) es := by
  intro i a b ha hb
  obtain ⟨e, he, h1, h2⟩ := lnk_get i (lnk_app hS.lnk) ha hb
  obtain ⟨e', he', q1, q2, q3, -⟩ := hm e he
  have hnd := hS.nd
  rw [List.nodup_append] at hnd
  obtain ⟨n1, n2, n3⟩ := hnd
  have ma : a ∈ u :: v :: r := List.mem_of_getElem? ha
  have mb : b ∈ v :: r := by
    have : (v :: r)[i]? = some b := by simpa using hb
    exact List.mem_of_getElem? this
  refine ⟨e', (hR e').2 ⟨he', ?_, ?_, ?_⟩, by rw [q1, h1], by rw [q2, h2], by rw [q3, h1, h2]⟩
  · rw [q2, h2]
    intro h
    rcases List.mem_append.1 h with h | h
    · exact n3 b h b (List.mem_cons_of_mem _ mb) rfl
    · rw [List.mem_singleton.1 h] at mb
      exact (List.nodup_cons.1 n2).1 mb
  · rw [q1, h1]
    intro h
    exact n3 a h a ma rfl
  · rw [q1, q2, h1, h2]
    rintro ⟨rfl, hn⟩
    have hi : i = 0 := by
      cases i with
      | zero => rfl
      | succ i =>
        have : (v :: r)[i]? = some a := by simpa using ha
        exact absurd (List.mem_of_getElem? this) (List.nodup_cons.1 n2).1
    subst hi
    simp at hb
    subst hb
    exact hv hn
theorem lnk_join {E : List NE} : ∀ {b r : List Nat} {u : Nat}, Lnk E (b ++ [u]) → Lnk E (u :: r) → Lnk E (b ++ u :: r)
  | [], _, _, _, h => h
  | [a], r, u, h1, h2 => ⟨h1.1, h2⟩
  | a :: c :: b, r, u, h1, h2 => ⟨h1.1, lnk_join (b := c :: b) h1.2 h2⟩
theorem onw_sim {es : List Ed} {R : List NE} {s t : Nat} {b0 g : List Nat} {u : Nat} {no : Nat → Prop} {D : Nat → Int} (hR : ∀ e, e ∈ R ↔ e ∈ nes es ∧ Kp b0 u no e) (hD : DOk R t D) (hh : ∃ r, b0 ++ [u] = s :: r) (hn : (b0 ++ [u]).Nodup) (hl : Lnk (nes es) (b0 ++ [u])) (hg : Grd R D t u g) : Sim (nes es) s t (b0 ++ u :: g) := by
  obtain ⟨g1, g2, g3, g4, g5⟩ := grd_path hD hg
  have hsub : ∀ {p : List Nat}, Lnk R p → Lnk (nes es) p := by
    intro p
    induction p with
    | nil => intro _; trivial
    | cons a p ih =>
      intro h
      cases p with
      | nil => trivial
      | cons b p =>
        obtain ⟨⟨e, he, q⟩, h2⟩ := h
        exact ⟨⟨e, ((hR e).1 he).1, q⟩, ih h2⟩
  have hgx : ∀ v ∈ g, v ∉ b0 ++ [u] := fun v hv => by
    obtain ⟨e, he, rfl⟩ := g5 v hv
    exact ((hR e).1 he).2.1
  refine ⟨?_, ?_, ?_, lnk_join hl (hsub g4)⟩
  · obtain ⟨r, hr⟩ := hh
    exact ⟨r ++ g, by rw [show b0 ++ u :: g = (b0 ++ [u]) ++ g by simp, hr]; rfl⟩
  · rw [List.getLast?_append, List.getLast?_eq_some_getLast (by simp), Option.some_or, g3]
  · rw [List.nodup_append] at hn ⊢
    refine ⟨hn.1, g2, fun a ha b hb e => ?_⟩
    subst e
    rcases List.mem_cons.1 hb with rfl | hb
    · exact hn.2.2 a ha a (List.mem_singleton.2 rfl) rfl
    · exact hgx a hb (List.mem_append_left _ ha)
/-- what goes on from b0, u in the greedy way is the least of all that go on so -/
theorem onw_least {es : List Ed} {R : List NE} {s t : Nat} {b0 g : List Nat} {u : Nat} {no : Nat → Prop} {D : Nat → Int} (hR : ∀ e, e ∈ R ↔ e ∈ nes es ∧ Kp b0 u no e) (hm : ∀ e ∈ nes es, ∃ e' ∈ nes es, e'.u = e.u ∧ e'.v = e.v ∧ e'.c = minE (e.u : Int) (e.v : Int) es ∧ e'.c ≤ e.c) (hD : DOk R t D) (hF : D u < FAR) (hg : Grd R D t u g) (hc : pcost es (u :: g) = D u) {y : Wy} (hy : YW es s t y) (ho : Onw (b0 ++ [u]) no y.p) : yLt y ⟨pcost es (b0 ++ u :: g), b0 ++ u :: g⟩ = false := by
  obtain ⟨v, r, h1, h2⟩ := ho
  rw [show (b0 ++ [u]) ++ v :: r = b0 ++ u :: v :: r by simp] at h1
  have hS := hy.1
  rw [h1] at hS
  have hw := wlk_of (v :: r) u (onw_steps hR hm hS h2)
  have hlast : (u :: v :: r).getLast (by simp) = t := by
    have := hS.last
    rw [List.getLast?_append, List.getLast?_eq_some_getLast (by simp), Option.some_or] at this
    simpa using this
  have hnd : (u :: v :: r).Nodup := (List.nodup_append.1 hS.nd).2.1
  have e1 := pcost_app (es := es) b0 u (v :: r)
  have e2 := pcost_app (es := es) b0 u g
  rw [yLt_not]
  simp only
  rw [hy.2, h1, e1, e2, hc]
  by_cases hx : pcost es (u :: v :: r) < FAR
  · have hlow := grd_low hD (v :: r) u _ hw hlast hx
    by_cases heq : pcost es (u :: v :: r) = D u
    · right
      refine ⟨by omega, ?_⟩
      rw [heq] at hw
      have := grd_first hD hg (v :: r) hw hlast hnd hF
      rw [show b0 ++ u :: g = (b0 ++ [u]) ++ g by simp, show b0 ++ u :: v :: r = (b0 ++ [u]) ++ v :: r by simp, cmpL_app]
      exact this
    · left; omega
  · left; omega
/-- where the place is not reached none goes on -/
theorem onw_none {es : List Ed} {R : List NE} {s t n : Nat} {b0 : List Nat} {u : Nat} {no : Nat → Prop} {D : Nat → Int} (hR : ∀ e, e ∈ R ↔ e ∈ nes es ∧ Kp b0 u no e) (hm : ∀ e ∈ nes es, ∃ e' ∈ nes es, e'.u = e.u ∧ e'.v = e.v ∧ e'.c = minE (e.u : Int) (e.v : Int) es ∧ e'.c ≤ e.c) (hD : DOk R t D) (hc : ∀ p, Sim (nes es) s t p → pcost es p < FAR) (hp : ∀ q, 0 ≤ pcost es q) (hF : FAR ≤ D u) {y : Wy} (hy : YW es s t y) (ho : Onw (b0 ++ [u]) no y.p) : False := by
  obtain ⟨v, r, h1, h2⟩ := ho
  rw [show (b0 ++ [u]) ++ v :: r = b0 ++ u :: v :: r by simp] at h1
  have hS := hy.1
  rw [h1] at hS
  have hw := wlk_of (v :: r) u (onw_steps hR hm hS h2)
  have hlast : (u :: v :: r).getLast (by simp) = t := by
    have := hS.last
    rw [List.getLast?_append, List.getLast?_eq_some_getLast (by simp), Option.some_or] at this
    simpa using this
  have e1 := pcost_app (es := es) b0 u (v :: r)
  have h3 := hc _ hS
  have h4 := hp (b0 ++ [u])
  have := grd_low hD (v :: r) u _ hw hlast (by omega)
  omega
theorem yen_min {n : Nat} {es : List Ed} (hR : Right n es) : ∀ e ∈ nes es, ∃ e' ∈ nes es, e'.u = e.u ∧ e'.v = e.v ∧ e'.c = minE (e.u : Int) (e.v : Int) es ∧ e'.c ≤ e.c := by
  intro e he
  obtain ⟨x, hx, hex⟩ := List.mem_map.1 he
  have hr := hR x hx
  have hxu : x.u = (e.u : Int) := by rw [← hex]; simp; omega
  have hxv : x.v = (e.v : Int) := by rw [← hex]; simp; omega
  have hxc : x.c = e.c := by rw [← hex]
  obtain ⟨g1, g2, g3⟩ := minE_fold (e.u : Int) (e.v : Int) es 1099511627776
  have h1 := g2 x hx hxu hxv
  change minE (e.u : Int) (e.v : Int) es ≤ x.c at h1
  rcases g3 with g3 | ⟨y, hy, hyu, hyv, hyc⟩
  · change minE (e.u : Int) (e.v : Int) es = _ at g3; omega
  · change y.c = minE (e.u : Int) (e.v : Int) es at hyc
    exact ⟨⟨y.u.toNat, y.v.toNat, y.c⟩, List.mem_map.2 ⟨y, hy, rfl⟩, by rw [hyu]; simp, by rw [hyv]; simp, hyc, by simp only; omega⟩
theorem minE_nn {es : List Ed} (hp : ∀ e ∈ es, 1 ≤ e.c) (a b : Int) : 0 ≤ minE a b es := by
  obtain ⟨g1, g2, g3⟩ := minE_fold a b es 1099511627776
  rcases g3 with g3 | ⟨y, hy, hyu, hyv, hyc⟩
  · change minE a b es = _ at g3; omega
  · change y.c = minE a b es at hyc; have := hp y hy; omega
theorem pcost_nn {es : List Ed} (hp : ∀ e ∈ es, 1 ≤ e.c) : ∀ p, 0 ≤ pcost es p
  | [] => by simp [pcost]
  | [_] => by simp [pcost]
  | a :: b :: r => by have h1 := minE_nn hp (a : Int) (b : Int); have h2 := pcost_nn hp (b :: r); rw [pcost]; omega
theorem pcost_le {n : Nat} {es : List Ed} (hR : Right n es) : ∀ p, Lnk (nes es) p → pcost es p ≤ 10000 * (p.length : Int)
  | [], _ => by simp [pcost]
  | [_], _ => by simp [pcost]
  | a :: b :: r, h => by
    have h2 := pcost_le hR (b :: r) h.2
    obtain ⟨e, he, rfl, rfl⟩ := h.1
    obtain ⟨e', he', q1, q2, q3, q4⟩ := yen_min hR e he
    obtain ⟨x, hx, hex⟩ := List.mem_map.1 he
    have hr := hR x hx
    have hxc : x.c = e.c := by rw [← hex]
    rw [pcost, ← q3]
    simp only [List.length_cons] at h2 ⊢
    omega
end Go.Proofs.Ytcehdpeeaogpiaa
