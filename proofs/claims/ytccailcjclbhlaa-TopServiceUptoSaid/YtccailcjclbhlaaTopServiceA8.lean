/-
  A part of the proof of ServePlays: AMA
-/
import Derived.Test.YtccailcjclbhlaaTopServiceA5
import Derived.Test.YtccailcjclbhlaaTopServiceA4
import Derived.Test.YtccailcjclbhlaaTopServiceA7
import Derived.Deep.RegionHeld3
import Derived.BigRegion
import Derived.Deep.DeepCutAuto
import Derived.BigQuiet
import Derived.Deep.QuietTactic
import Derived.Deep.LoopGhost
import Derived.Test.YtccailcjclbhlaaTopServiceA6
import Derived.Test.YtccailcjclbhlaaTopServiceA2
/-! Several texts in one: -/
/-! A search by rounds: what it does, whoever does it. No program here. -/
namespace Go.Proofs.Ytccailcjclbhlaa
set_option linter.unusedSimpArgs false
set_option linter.unusedVariables false
/-- a round that was told -/
structure RD where
  wa : Int
  wb : Int
  path : List Int
  cost : Int
  done : Nat
/-- costs so far, where each was come to from, who waits, who was looked from in this round, who is late, steps, the rounds told -/
structure AS where
  cost : Nat → Int
  pred : Nat → Int
  wt : Nat → Bool
  lk : Nat → Bool
  la : Nat → Bool
  done : Nat
  told : List RD
def akey (r : P2) (h : Nat → Int) (s : AS) (v : Nat) : Int := r.b * s.cost v + r.a * h v
def apl (r : P2) (h : Nat → Int) (s : AS) (v : Nat) : Ed := ⟨akey r h s v, h v, (v : Int)⟩
/-- the next: before all that wait -/
def ANext (r : P2) (h : Nat → Int) (n : Nat) (s : AS) (v : Nat) : Prop := (v < n ∧ s.wt v = true) ∧ ∀ u, u < n → s.wt u = true → plLt (apl r h s u) (apl r h s v) = false
/-- one edge looked at from v -/
def aedge (h : Nat → Int) (v : Nat) (s : AS) (e : NE) : AS :=
  if e.u = v ∧ h e.v ≠ FAR ∧ s.cost v + e.c < s.cost e.v then
    { s with cost := upz s.cost e.v (s.cost v + e.c), pred := upz s.pred e.v (v : Int), wt := if s.lk e.v = true then s.wt else upz s.wt e.v true, la := if s.lk e.v = true then upz s.la e.v true else s.la }
  else s
def alook (s : AS) (v : Nat) : AS := { s with wt := upz s.wt v false, lk := upz s.lk v true, done := s.done + 1 }
def aexpand (E : List NE) (h : Nat → Int) (v : Nat) (s : AS) : AS := E.foldl (aedge h v) (alook s v)
/-- the best way so far: the one told last, or the way up from the end if it costs less -/
def lastWay (s : AS) : List Int × Int := match s.told.getLast? with | some r => (r.path, r.cost) | none => ([], FAR)
def upWay (n : Nat) (es : List Ed) (l : List Nat) : List Int × Int := (LP l.reverse, (wcost (n : Int) es (LP l.reverse)).1)
def ABest (n tg : Nat) (es : List Ed) (s : AS) (p : List Int × Int) : Prop :=
  (¬ s.cost tg < FAR ∧ p = lastWay s) ∨ (s.cost tg < FAR ∧ ∃ l, Chain s.pred tg l ∧ p = if (upWay n es l).2 < (lastWay s).2 then upWay n es l else lastWay s)
/-- a round told, the next begun -/
def atell (r : P2) (p : List Int × Int) (s : AS) : AS := { s with told := s.told ++ [⟨r.a, r.b, p.1, p.2, s.done⟩], wt := fun v => s.wt v || s.la v, lk := fun _ => false, la := fun _ => false }
/-- there is something left to do in this round -/
def Left (r : P2) (h : Nat → Int) (n tg : Nat) (s : AS) : Prop := ∃ v, ANext r h n s v ∧ (¬ s.cost tg < FAR ∨ akey r h s v < akey r h s tg)
inductive ASettle (ws : List P2) (es : List Ed) (h : Nat → Int) (n tg : Nat) : AS → AS → Prop
  | over (s : AS) (ho : ws.length ≤ s.told.length) : ASettle ws es h n tg s s
  | left (s : AS) (r : P2) (hr : ws[s.told.length]? = some r) (hl : Left r h n tg s) : ASettle ws es h n tg s s
  | tell (s s' : AS) (r : P2) (p : List Int × Int) (hr : ws[s.told.length]? = some r) (hl : ¬ Left r h n tg s) (hp : ABest n tg es s p) (ht : ASettle ws es h n tg (atell r p s) s') : ASettle ws es h n tg s s'
/-- one step -/
def AStep (ws : List P2) (es : List Ed) (h : Nat → Int) (n tg : Nat) (s s' : AS) : Prop :=
  ∃ r v, ws[s.told.length]? = some r ∧ ANext r h n s v ∧ ASettle ws es h n tg (aexpand (nes es) h v s) s'
theorem anext_one {r : P2} {h : Nat → Int} {n : Nat} {s : AS} {u v : Nat} (hu : ANext r h n s u) (hv : ANext r h n s v) : u = v := by
  have := plLt_tot (hv.2 u hu.1.1 hu.1.2) (hu.2 v hv.1.1 hv.1.2)
  simp only [apl, Ed.mk.injEq] at this
  omega
theorem abest_one {n tg : Nat} {es : List Ed} {s : AS} {p q : List Int × Int} (hp : ABest n tg es s p) (hq : ABest n tg es s q) : p = q := by
  rcases hp with ⟨h1, rfl⟩ | ⟨h1, l, h2, rfl⟩
  · rcases hq with ⟨_, rfl⟩ | ⟨h3, _⟩
    · rfl
    · exact absurd h3 h1
  · rcases hq with ⟨h3, _⟩ | ⟨_, m, h3, rfl⟩
    · exact absurd h1 h3
    · rw [chain_one h2 h3]
theorem asettle_one {ws : List P2} {es : List Ed} {h : Nat → Int} {n tg : Nat} {s a b : AS} (ha : ASettle ws es h n tg s a) (hb : ASettle ws es h n tg s b) : a = b := by
  have hno : ∀ {s : AS} {r : P2}, ws.length ≤ s.told.length → ws[s.told.length]? = some r → False := fun h1 h2 => by
    have := (List.getElem?_eq_some_iff.1 h2).1; omega
  induction ha with
  | over s ho =>
    cases hb with
    | over _ _ => rfl
    | left _ r hr _ => rfl
    | tell _ _ r p hr _ _ _ => exact (hno ho hr).elim
  | left s r hr hl =>
    cases hb with
    | over _ _ => rfl
    | left _ _ _ _ => rfl
    | tell _ _ r2 p hr2 hl2 _ _ =>
      rw [hr] at hr2
      cases hr2
      exact absurd hl hl2
  | tell s s' r p hr hl hp ht ih =>
    cases hb with
    | over _ ho => exact (hno ho hr).elim
    | left _ r2 hr2 hl2 =>
      rw [hr] at hr2
      cases hr2
      exact absurd hl2 hl
    | tell _ _ r2 q hr2 hl2 hq ht2 =>
      rw [hr] at hr2
      cases hr2
      obtain rfl := abest_one hp hq
      exact ih ht2
theorem astep_one {ws : List P2} {es : List Ed} {h : Nat → Int} {n tg : Nat} {s a b : AS} (ha : AStep ws es h n tg s a) (hb : AStep ws es h n tg s b) : a = b := by
  obtain ⟨r, v, h1, h2, h3⟩ := ha
  obtain ⟨r2, u, g1, g2, g3⟩ := hb
  rw [h1] at g1
  cases g1
  obtain rfl := anext_one h2 g2
  exact asettle_one h3 g3
/-- many steps, no more than k, until it is over -/
inductive ASteps (ws : List P2) (es : List Ed) (h : Nat → Int) (n tg : Nat) : Nat → AS → Nat → AS → Prop
  | zero (s : AS) : ASteps ws es h n tg 0 s 0 s
  | over (k : Nat) (s : AS) (ho : ws.length ≤ s.told.length) : ASteps ws es h n tg k s 0 s
  | step (k j : Nat) (s s1 s2 : AS) (hlt : s.told.length < ws.length) (h1 : AStep ws es h n tg s s1) (h2 : ASteps ws es h n tg k s1 j s2) : ASteps ws es h n tg (k + 1) s (j + 1) s2
theorem asteps_one {ws : List P2} {es : List Ed} {h : Nat → Int} {n tg k : Nat} {s : AS} {i j : Nat} {a b : AS} (ha : ASteps ws es h n tg k s i a) (hb : ASteps ws es h n tg k s j b) : i = j ∧ a = b := by
  induction ha generalizing j b with
  | zero s =>
    cases hb with
    | zero _ => exact ⟨rfl, rfl⟩
    | over _ _ _ => exact ⟨rfl, rfl⟩
  | over k s ho =>
    cases hb with
    | zero _ => exact ⟨rfl, rfl⟩
    | over _ _ _ => exact ⟨rfl, rfl⟩
    | step _ _ _ _ _ hlt _ _ => omega
  | step k i s s1 s2 hlt h1 h2 ih =>
    cases hb with
    | over _ _ ho => omega
    | step _ j2 _ t1 t2 _ g1 g2 =>
      obtain rfl := astep_one h1 g1
      obtain ⟨rfl, rfl⟩ := ih g2
      exact ⟨rfl, rfl⟩
/-- what holds all along: bounds on the costs, ways that fall -/
structure AOk (n : Nat) (h : Nat → Int) (s : AS) : Prop where
  cb : ∀ v, s.cost v = FAR ∨ (0 ≤ s.cost v ∧ s.cost v ≤ 10000 * (s.done : Int))
  hf : ∀ v, s.cost v < FAR → h v ≠ FAR
  wt : ∀ v, s.wt v = true → s.cost v < FAR ∧ s.lk v = false
  la : ∀ v, s.la v = true → s.cost v < FAR ∧ s.lk v = true
  lk : ∀ v, s.lk v = true → v < n
  pr : ∀ v, s.cost v < FAR → s.pred v < 0 ∨ ∃ u : Nat, s.pred v = (u : Int) ∧ u < n ∧ s.cost u < FAR ∧ s.cost u < s.cost v
structure AMd (n : Nat) (h : Nat → Int) (v : Nat) (s : AS) : Prop where
  ok : AOk n h s
  lkv : s.lk v = true
  cv : 0 ≤ s.cost v ∧ s.cost v + 10000 ≤ 10000 * (s.done : Int)
theorem amd_start {n : Nat} {h : Nat → Int} {s : AS} (hs : AOk n h s) {v : Nat} (hv : v < n) (hw : s.wt v = true) : AMd n h v (alook s v) := by
  have h0 := (hs.wt v hw).1
  have hc := hs.cb v
  refine ⟨⟨fun u => ?_, hs.hf, fun u hu => ?_, fun u hu => ?_, fun u hu => ?_, fun u hu => hs.pr u hu⟩, upz_same _ _ _, ?_⟩
  · rcases hs.cb u with h1 | h1
    · exact .inl h1
    · right
      simp only [alook]
      push_cast
      omega
  · have hu' : upz s.wt v false u = true := hu
    show s.cost u < FAR ∧ upz s.lk v true u = false
    by_cases huv : u = v
    · subst huv; rw [upz_same] at hu'; cases hu'
    · rw [upz_other _ _ huv] at hu' ⊢
      exact hs.wt u hu'
  · show s.cost u < FAR ∧ upz s.lk v true u = true
    have h1 := hs.la u hu
    refine ⟨h1.1, ?_⟩
    by_cases huv : u = v
    · subst huv; exact upz_same _ _ _
    · rw [upz_other _ _ huv]; exact h1.2
  · have hu' : upz s.lk v true u = true := hu
    by_cases huv : u = v
    · subst huv; exact hv
    · rw [upz_other _ _ huv] at hu'
      exact hs.lk u hu'
  · simp only [alook]
    push_cast
    omega
theorem amd_edge {n : Nat} {h : Nat → Int} {v : Nat} {s : AS} (hs : AMd n h v s) (hvn : v < n) {e : NE} (he : 1 ≤ e.c ∧ e.c ≤ 10000) (hl : s.done ≤ 100000) : AMd n h v (aedge h v s e) := by
  unfold aedge
  split
  · rename_i hc
    obtain ⟨h1, h2, h3⟩ := hc
    have hcv := hs.cv
    have hne : v ≠ e.v := fun e1 => by rw [← e1] at h3; omega
    have hvF : s.cost v < FAR := by unfold FAR; omega
    have hnF : s.cost v + e.c < FAR := by unfold FAR; omega
    refine ⟨⟨fun u => ?_, fun u hu => ?_, fun u hu => ?_, fun u hu => ?_, hs.ok.lk, fun u hu => ?_⟩, hs.lkv, ?_⟩
    · show upz s.cost e.v _ u = FAR ∨ (0 ≤ upz s.cost e.v _ u ∧ upz s.cost e.v _ u ≤ 10000 * (s.done : Int))
      by_cases hu : u = e.v
      · subst hu
        rw [upz_same]
        right
        omega
      · rw [upz_other _ _ hu]
        exact hs.ok.cb u
    · by_cases hu2 : u = e.v
      · subst hu2; exact h2
      · have hu' : upz s.cost e.v (s.cost v + e.c) u < FAR := hu
        rw [upz_other _ _ hu2] at hu'
        exact hs.ok.hf u hu'
    · show upz s.cost e.v _ u < FAR ∧ s.lk u = false
      have hu' : (if s.lk e.v = true then s.wt else upz s.wt e.v true) u = true := hu
      by_cases hu2 : u = e.v
      · subst hu2
        rw [upz_same]
        refine ⟨hnF, ?_⟩
        cases hlk : s.lk e.v with
        | false => rfl
        | true =>
          rw [if_pos hlk] at hu'
          have := (hs.ok.wt _ hu').2
          rw [hlk] at this; cases this
      · rw [upz_other _ _ hu2]
        refine hs.ok.wt u ?_
        split at hu'
        · exact hu'
        · rwa [upz_other _ _ hu2] at hu'
    · show upz s.cost e.v _ u < FAR ∧ s.lk u = true
      have hu' : (if s.lk e.v = true then upz s.la e.v true else s.la) u = true := hu
      by_cases hu2 : u = e.v
      · subst hu2
        rw [upz_same]
        refine ⟨hnF, ?_⟩
        cases hlk : s.lk e.v with
        | true => rfl
        | false =>
          rw [if_neg (by rw [hlk]; simp)] at hu'
          have := (hs.ok.la _ hu').2
          rw [hlk] at this; cases this
      · rw [upz_other _ _ hu2]
        refine hs.ok.la u ?_
        split at hu'
        · rwa [upz_other _ _ hu2] at hu'
        · exact hu'
    · have hu' : upz s.cost e.v (s.cost v + e.c) u < FAR := hu
      show upz s.pred e.v (v : Int) u < 0 ∨ ∃ z : Nat, upz s.pred e.v (v : Int) u = (z : Int) ∧ z < n ∧ upz s.cost e.v (s.cost v + e.c) z < FAR ∧ upz s.cost e.v (s.cost v + e.c) z < upz s.cost e.v (s.cost v + e.c) u
      by_cases hu2 : u = e.v
      · subst hu2
        right
        refine ⟨v, upz_same _ _ _, hvn, ?_, ?_⟩
        · rw [upz_other _ _ hne]; exact hvF
        · rw [upz_other _ _ hne, upz_same]; omega
      · rw [upz_other _ _ hu2] at hu' ⊢
        rw [upz_other _ _ hu2]
        rcases hs.ok.pr u hu' with h4 | ⟨z, z1, z2, z3, z4⟩
        · exact .inl h4
        · right
          refine ⟨z, z1, z2, ?_⟩
          by_cases hz : z = e.v
          · subst hz
            rw [upz_same]
            exact ⟨by omega, by omega⟩
          · rw [upz_other _ _ hz]
            exact ⟨z3, z4⟩
    · show 0 ≤ upz s.cost e.v _ v ∧ upz s.cost e.v _ v + 10000 ≤ 10000 * (s.done : Int)
      rw [upz_other _ _ hne]
      exact hcv
  · exact hs
theorem aok_tell {n : Nat} {h : Nat → Int} {s : AS} (hs : AOk n h s) (r : P2) (p : List Int × Int) : AOk n h (atell r p s) := by
  refine ⟨hs.cb, hs.hf, fun v hv => ?_, fun v hv => by simp [atell] at hv, fun v hv => by simp [atell] at hv, hs.pr⟩
  have hv' : (s.wt v || s.la v) = true := hv
  refine ⟨?_, rfl⟩
  rcases Bool.or_eq_true _ _ ▸ hv' with h1 | h1
  · exact (hs.wt v h1).1
  · exact (hs.la v h1).1
/-- a way up: none of its places twice -/
theorem achain {n : Nat} {h : Nat → Int} {s : AS} (hs : AOk n h s) : ∀ (k : Nat) (v : Nat), v < n → s.cost v < FAR → s.cost v ≤ (k : Int) → ∃ l, Chain s.pred v l ∧ (∀ x ∈ l, x < n)
  | k, v, hv, hF, hk => by
    have hc := hs.cb v
    rcases hs.pr v hF with h1 | ⟨u, h1, h2, h3, h4⟩
    · exact ⟨[v], .top v h1, fun x hx => by simp at hx; subst hx; exact hv⟩
    · cases k with
      | zero =>
        have := hs.cb u
        unfold FAR at *
        omega
      | succ k =>
        obtain ⟨l, g1, g2⟩ := achain hs k u h2 h3 (by omega)
        refine ⟨v :: l, .step v u l h1 g1, fun x hx => ?_⟩
        rcases List.mem_cons.1 hx with rfl | hx
        · exact hv
        · exact g2 x hx
theorem away {n : Nat} {h : Nat → Int} {s : AS} (hs : AOk n h s) {v : Nat} (hv : v < n) (hF : s.cost v < FAR) : ∃ l, Chain s.pred v l ∧ l.length ≤ n ∧ ∀ x ∈ l, x < n := by
  obtain ⟨l, h1, h2⟩ := achain hs (s.cost v).toNat v hv hF (by have := hs.cb v; omega)
  exact ⟨l, h1, nodup_shortS n l (chain_nodup h1) h2, h2⟩
/-- a place's own edges are enough -/
theorem afold_own {h : Nat → Int} {v : Nat} : ∀ (E : List NE) (s : AS), E.foldl (aedge h v) s = (E.filter fun e => decide (e.u = v)).foldl (aedge h v) s
  | [], s => rfl
  | e :: r, s => by
    rw [List.foldl_cons, afold_own r, List.filter_cons]
    by_cases he : e.u = v
    · simp [he]
    · have : aedge h v s e = s := by unfold aedge; rw [if_neg (fun hc => he hc.1)]
      simp [he, this]
/-- where it begins -/
def aStart (h : Nat → Int) (v : Nat) : AS := if h v = FAR then ⟨fun _ => FAR, fun _ => -1, fun _ => false, fun _ => false, fun _ => false, 0, []⟩ else ⟨upz (fun _ => FAR) v 0, fun _ => -1, upz (fun _ => false) v true, fun _ => false, fun _ => false, 0, []⟩
theorem aok_start {n v : Nat} {h : Nat → Int} : AOk n h (aStart h v) := by
  unfold aStart
  split
  · refine ⟨fun u => .inl rfl, fun u hu => absurd hu (by simp), fun u hu => absurd hu (by simp), fun u hu => absurd hu (by simp), fun u hu => absurd hu (by simp), fun u hu => .inl (by simp)⟩
  · rename_i hh
    refine ⟨fun u => ?_, fun u hu => ?_, fun u hu => ?_, fun u hu => absurd hu (by simp), fun u hu => absurd hu (by simp), fun u hu => .inl (by simp)⟩
    · by_cases huv : u = v
      · subst huv; right; simp [upz_same]
      · left; show upz (fun _ => FAR) v 0 u = FAR; rw [upz_other _ _ huv]
    · by_cases huv : u = v
      · subst huv; exact hh
      · have hu' : upz (fun _ => FAR) v (0 : Int) u < FAR := hu
        rw [upz_other _ _ huv] at hu'
        omega
    · have hu' : upz (fun _ => false) v true u = true := hu
      show upz (fun _ => FAR) v (0 : Int) u < FAR ∧ false = false
      by_cases huv : u = v
      · subst huv; rw [upz_same]; exact ⟨by unfold FAR; omega, rfl⟩
      · rw [upz_other _ _ huv] at hu'; cases hu'
end Go.Proofs.Ytccailcjclbhlaa

/-! What holds while a search by rounds runs: its object, the rows, the heap, the late ones, the rounds. No condition. -/
namespace Go.Proofs.Ytccailcjclbhlaa
open Go.RowKit
set_option linter.unusedSimpArgs false
set_option linter.unusedVariables false
/-- a round in memory -/
structure RV where
  na : Int
  nb : Int
  pa : Option Addr
  pm : Nat
  pc : Nat
  rc : Int
  dn : Int
def encR (r : RV) : List Value := [.int .i64 r.na, .int .i64 r.nb, .slice r.pa r.pm r.pc, .int .i64 r.rc, .int .i64 r.dn]
theorem lenR (r : RV) : (encR r).length = 5 := rfl
theorem oneR (r : RV) : ∀ u ∈ encR r, u.oneCell' = true := by intro u hu; simp [encR] at hu; rcases hu with rfl | rfl | rfl | rfl | rfl <;> rfl
theorem newR (w : World) (t : TypeId) (x : RV) (g : Nat) (hg : g = w.heap.size) : ∀ j u, (encR x)[j]? = some u → (w.alloc (.cells #[.int .i64 x.na, .int .i64 x.nb, .slice x.pa x.pm x.pc, .int .i64 x.rc, .int .i64 x.dn] t)).cell? ((⟨g, 0, none⟩ : Addr).add j) = some u := by
  intro j u hj; subst hg
  match j, hj with
  | 0, hj => simp [encR] at hj; subst hj; simp [go_sem, Addr.add]
  | 1, hj => simp [encR] at hj; subst hj; simp [go_sem, Addr.add]
  | 2, hj => simp [encR] at hj; subst hj; simp [go_sem, Addr.add]
  | 3, hj => simp [encR] at hj; subst hj; simp [go_sem, Addr.add]
  | 4, hj => simp [encR] at hj; subst hj; simp [go_sem, Addr.add]
theorem info_round : (Try.prog.info? 53).map (fun i => (i.zero, i.size, i.bytes)) = some (some (.agg #[.int .i64 0, .int .i64 0, .slice none 0 0, .int .i64 0, .int .i64 0]), 5, 56) := by kernel_rfl
/-- a round that was told stands there -/
def RoundAt (w : World) (base : Nat) (r : RV) (t : RD) : Prop := r.na = t.wa ∧ r.nb = t.wb ∧ r.rc = t.cost ∧ r.dn = (t.done : Int) ∧ r.pm = t.path.length ∧ Own encI 1 3 w base (.slice r.pa r.pm r.pc) t.path
def Told (w : World) (base : Nat) (ros : List RV) (told : List RD) : Prop := ros.length = told.length ∧ ∀ i (h : i < told.length), ∃ r, ros[i]? = some r ∧ RoundAt w base r told[i]
/-- the blocks of the ways told -/
def Pathb (ros : List RV) (j : Nat) : Prop := ∃ r ∈ ros, (Value.slice r.pa r.pm r.pc).ownBlock = some j
theorem Told.keep {S : Nat → Prop} {w w' : World} {base : Nat} {ros : List RV} {told : List RD} (h : Told w base ros told) (kp : Keep S w w') (hS : ∀ j, Pathb ros j → ¬ S j) : Told w' base ros told := by
  refine ⟨h.1, fun i hi => ?_⟩
  obtain ⟨r, h1, h2, h3, h4, h5, h6, h7⟩ := h.2 i hi
  exact ⟨r, h1, h2, h3, h4, h5, h6, kp.own h7 (fun j hj => hS j ⟨r, List.mem_of_getElem? h1, hj⟩)⟩
theorem Told.stays {w w' : World} {base : Nat} {ros : List RV} {told : List RD} (h : Told w base ros told) (b : Below w.heap.size w w') : Told w' base ros told :=
  h.keep (S := fun _ => False) (Keep.new b) (fun _ _ h => h)
theorem Told.lt {w : World} {base : Nat} {ros : List RV} {told : List RD} (h : Told w base ros told) {j : Nat} (hj : Pathb ros j) : base ≤ j ∧ j < w.heap.size := by
  obtain ⟨r, hr, hb⟩ := hj
  obtain ⟨i, hi, rfl⟩ := List.getElem_of_mem hr
  obtain ⟨r2, h1, _, _, _, _, _, h7⟩ := h.2 i (by have := h.1; omega)
  rw [List.getElem?_eq_getElem hi] at h1
  cases h1
  exact h7.block_lt j hb
theorem Told.push {w : World} {base : Nat} {ros : List RV} {told : List RD} (h : Told w base ros told) {r : RV} {t : RD} (hr : RoundAt w base r t) : Told w base (ros ++ [r]) (told ++ [t]) := by
  refine ⟨by simp [h.1], fun i hi => ?_⟩
  by_cases hlt : i < told.length
  · obtain ⟨r2, h1, h2⟩ := h.2 i hlt
    refine ⟨r2, ?_, ?_⟩
    · rw [List.getElem?_append_left (by have := h.1; omega)]; exact h1
    · rw [List.getElem_append_left hlt]; exact h2
  · have hi2 : i = told.length := by simp at hi; omega
    subst hi2
    refine ⟨r, ?_, ?_⟩
    · rw [List.getElem?_append_right (by have := h.1; omega), h.1]; simp
    · simpa using hr
/-- the blocks that it writes -/
def AXb (sb gc gp gd gh : Nat) (j : Nat) : Prop := j = sb ∨ j = gc ∨ j = gp ∨ j = gd ∨ j = gh
/-- another's blocks, and what they are: B is the count of blocks then -/
class AFr where
  F : Nat → Prop
  B : Nat
  blk : Nat → Option Obj
@[reducible] def AFr.none : AFr := ⟨fun _ => False, 0, fun _ => Option.none⟩
/-- the other's blocks are as they were, and none of A -/
def AF [AFr] (A : Nat → Prop) (wr : World) : Prop := AFr.B ≤ wr.heap.size ∧ ∀ j, AFr.F j → j < AFr.B ∧ wr.heap[j]? = AFr.blk j ∧ ¬ A j
theorem AF.ofNone (A : Nat → Prop) (wr : World) : @AF AFr.none A wr := ⟨Nat.zero_le _, fun j hj => (show False from hj).elim⟩
theorem AF.keep [AFr] {A A' T : Nat → Prop} {wr w' : World} (h : AF A wr) (kp : Keep T wr w') (hT : ∀ j, T j → A j ∨ ¬ AFr.F j) (hA : ∀ j, A' j → A j ∨ wr.heap.size ≤ j ∨ ¬ AFr.F j) : AF A' w' := by
  refine ⟨Nat.le_trans h.1 kp.size, fun j hj => ?_⟩
  obtain ⟨h1, h2, h3⟩ := h.2 j hj
  have hB := h.1
  refine ⟨h1, ?_, fun hc => ?_⟩
  · rw [kp.block j (by omega) (fun ht => (hT j ht).elim h3 (fun hf => hf hj))]
    exact h2
  · rcases hA j hc with h4 | h4 | h4
    · exact h3 h4
    · omega
    · exact h4 hj
theorem AF.noF [AFr] {A : Nat → Prop} {wr : World} (h : AF A wr) {j : Nat} (hj : wr.heap.size ≤ j) : ¬ AFr.F j := fun hF => by have := (h.2 j hF).1; have := h.1; omega
/-- the blocks at which some addresses point -/
def CB (es : List Ed) (ae ha aw : Option Addr) (j : Nat) : Prop := (es ≠ [] ∧ ∃ o, ae = some ⟨j, o, none⟩) ∨ (∃ o, ha = some ⟨j, o, none⟩) ∨ (∃ o, aw = some ⟨j, o, none⟩)
/-- its own blocks -/
def AOwn (sb gc gp gd gh : Nat) (v lv rv : Value) (ros : List RV) (j : Nat) : Prop := AXb sb gc gp gd gh j ∨ v.ownBlock = some j ∨ lv.ownBlock = some j ∨ rv.ownBlock = some j ∨ Pathb ros j
/-- sb: the object; gc, gp, gd: costs, where from, looked from; gh: the heap; wS: the world right behind their making -/
structure AX [AFr] (n sb gc gp gd gh : Nat) (ev ov hv wv : Value) (tg : Int) (v : Value) (k : Nat) (f : Nat → Ed) (lv : Value) (ls : List Nat) (rv : Value) (ros : List RV) (s : AS) (wS wr : World) : Prop where
  c0 : wr.cell? ⟨sb, 0, none⟩ = some (.int .i64 (n : Int))
  c1 : wr.cell? ⟨sb, 1, none⟩ = some ev
  c2 : wr.cell? ⟨sb, 2, none⟩ = some ov
  c3 : wr.cell? ⟨sb, 3, none⟩ = some (.int .i64 tg)
  c4 : wr.cell? ⟨sb, 4, none⟩ = some hv
  c5 : wr.cell? ⟨sb, 5, none⟩ = some wv
  c6 : wr.cell? ⟨sb, 6, none⟩ = some (.slice (some ⟨gc, 0, none⟩) n n)
  c7 : wr.cell? ⟨sb, 7, none⟩ = some (.slice (some ⟨gp, 0, none⟩) n n)
  c8 : wr.cell? ⟨sb, 8, none⟩ = some (.slice (some ⟨gd, 0, none⟩) n n)
  c9 : wr.cell? ⟨sb, 9, none⟩ = some lv
  c10 : wr.cell? ⟨sb, 10, none⟩ = some (.pointer (some ⟨gh, 0, none⟩))
  c11 : wr.cell? ⟨sb, 11, none⟩ = some (.int .i64 (s.done : Int))
  c12 : wr.cell? ⟨sb, 12, none⟩ = some rv
  fz : ∀ o, wr.frozen? ⟨sb, o, none⟩ = false
  cost : Own encI 1 3 wr 0 (.slice (some ⟨gc, 0, none⟩) n n) (LI n s.cost)
  pred : Own encI 1 3 wr 0 (.slice (some ⟨gp, 0, none⟩) n n) (LI n s.pred)
  lk : Own encB 1 4 wr 0 (.slice (some ⟨gd, 0, none⟩) n n) (LB n s.lk)
  heap : HeapT wr gh gh (.func (.func 36) #[] #[]) v k f
  late : Own encI 1 3 wr wS.heap.size lv (LP ls)
  rnds : Own encR 5 53 wr wS.heap.size rv ros
  told : Told wr wS.heap.size ros s.told
  keep : Keep (AXb sb gc gp gd gh) wS wr
  hs : ∀ j, v.ownBlock = some j → wS.heap.size ≤ j
  apL : ∀ j, lv.ownBlock = some j → v.ownBlock ≠ some j ∧ rv.ownBlock ≠ some j
  apR : ∀ j, rv.ownBlock = some j → v.ownBlock ≠ some j
  apP : ∀ j, Pathb ros j → v.ownBlock ≠ some j ∧ lv.ownBlock ≠ some j ∧ rv.ownBlock ≠ some j
  lt : sb < wS.heap.size ∧ gc < wS.heap.size ∧ gp < wS.heap.size ∧ gd < wS.heap.size ∧ gh < wS.heap.size
  ne : sb ≠ gc ∧ sb ≠ gp ∧ sb ≠ gd ∧ sb ≠ gh ∧ gc ≠ gp ∧ gc ≠ gd ∧ gc ≠ gh ∧ gp ≠ gd ∧ gp ≠ gh ∧ gd ≠ gh
  nf : AF (AOwn sb gc gp gd gh v lv rv ros) wr
section
variable [AFr]
variable {n sb gc gp gd gh : Nat} {ev ov hv wv : Value} {tg : Int} {v : Value} {k : Nat} {f : Nat → Ed} {lv : Value} {ls : List Nat} {rv : Value} {ros : List RV} {s : AS} {wS wr w' : World}
theorem AX.big (h : AX n sb gc gp gd gh ev ov hv wv tg v k f lv ls rv ros s wS wr) : wS.heap.size ≤ wr.heap.size := h.keep.size
/-- what does not touch the object, the rows, the heap's own block -/
theorem AX.frame (h : AX n sb gc gp gd gh ev ov hv wv tg v k f lv ls rv ros s wS wr) {T : Nat → Prop} (kp : Keep T wr w') (hT : ∀ j, T j → wS.heap.size ≤ j ∧ v.ownBlock ≠ some j ∧ lv.ownBlock ≠ some j ∧ rv.ownBlock ≠ some j ∧ ¬ Pathb ros j ∧ ¬ AFr.F j) : AX n sb gc gp gd gh ev ov hv wv tg v k f lv ls rv ros s wS w' := by
  have hl := h.lt
  have hn : ∀ j, j < wS.heap.size → ¬ T j := fun j hj hc => by have := (hT j hc).1; omega
  exact ⟨kp.cu h.c0 (hn sb (by omega)), kp.cu h.c1 (hn sb (by omega)), kp.cu h.c2 (hn sb (by omega)), kp.cu h.c3 (hn sb (by omega)), kp.cu h.c4 (hn sb (by omega)), kp.cu h.c5 (hn sb (by omega)), kp.cu h.c6 (hn sb (by omega)), kp.cu h.c7 (hn sb (by omega)), kp.cu h.c8 (hn sb (by omega)), kp.cu h.c9 (hn sb (by omega)), kp.cu h.c10 (hn sb (by omega)), kp.cu h.c11 (hn sb (by omega)), kp.cu h.c12 (hn sb (by omega)),
    fun o => (kp.frozen (p := ⟨sb, o, none⟩) (show sb < _ from cell_lt h.c0) (hn sb (by omega))).trans (h.fz o),
    kp.own h.cost (fun j hj => hn j (by simp [Value.ownBlock] at hj; omega)), kp.own h.pred (fun j hj => hn j (by simp [Value.ownBlock] at hj; omega)), kp.own h.lk (fun j hj => hn j (by simp [Value.ownBlock] at hj; omega)),
    h.heap.keep kp (hn gh (by omega)) (fun j hj hc => (hT j hc).2.1 hj), kp.own h.late (fun j hj hc => (hT j hc).2.2.1 hj), kp.own h.rnds (fun j hj hc => (hT j hc).2.2.2.1 hj), h.told.keep kp (fun j hj hc => (hT j hc).2.2.2.2.1 hj),
    h.keep.trans2 kp (fun j hj => .inr (hT j hj).1), h.hs, h.apL, h.apR, h.apP, h.lt, h.ne, h.nf.keep kp (fun j hj => .inr (hT j hj).2.2.2.2.2) (fun j hj => .inl hj)⟩
theorem AX.stays (h : AX n sb gc gp gd gh ev ov hv wv tg v k f lv ls rv ros s wS wr) (b : Below wr.heap.size wr w') : AX n sb gc gp gd gh ev ov hv wv tg v k f lv ls rv ros s wS w' :=
  h.frame (T := fun _ => False) (Keep.new b) (fun j hj => hj.elim)
/-- one of the rows, or the object's own changing cells, is written -/
theorem AX.own (h : AX n sb gc gp gd gh ev ov hv wv tg v k f lv ls rv ros s wS wr) {T : Nat → Prop} (kp : Keep T wr w') (hT : ∀ j, T j → AXb sb gc gp gd gh j) : (T sb → False) → (T gh → False) →
    (w'.cell? ⟨sb, 0, none⟩ = some (.int .i64 (n : Int)) ∧ w'.cell? ⟨sb, 1, none⟩ = some ev ∧ w'.cell? ⟨sb, 2, none⟩ = some ov ∧ w'.cell? ⟨sb, 3, none⟩ = some (.int .i64 tg) ∧ w'.cell? ⟨sb, 4, none⟩ = some hv ∧ w'.cell? ⟨sb, 5, none⟩ = some wv ∧ w'.cell? ⟨sb, 6, none⟩ = some (.slice (some ⟨gc, 0, none⟩) n n) ∧ w'.cell? ⟨sb, 7, none⟩ = some (.slice (some ⟨gp, 0, none⟩) n n) ∧ w'.cell? ⟨sb, 8, none⟩ = some (.slice (some ⟨gd, 0, none⟩) n n) ∧ w'.cell? ⟨sb, 9, none⟩ = some lv ∧ w'.cell? ⟨sb, 10, none⟩ = some (.pointer (some ⟨gh, 0, none⟩)) ∧ w'.cell? ⟨sb, 11, none⟩ = some (.int .i64 (s.done : Int)) ∧ w'.cell? ⟨sb, 12, none⟩ = some rv) ∧ (∀ o, w'.frozen? ⟨sb, o, none⟩ = false) ∧
    HeapT w' gh gh (.func (.func 36) #[] #[]) v k f ∧ Own encI 1 3 w' wS.heap.size lv (LP ls) ∧ Own encR 5 53 w' wS.heap.size rv ros ∧ Told w' wS.heap.size ros s.told ∧ Keep (AXb sb gc gp gd gh) wS w' ∧ AF (AOwn sb gc gp gd gh v lv rv ros) w' := by
  intro h1 h2
  have hl := h.lt
  have hbig : ∀ j, wS.heap.size ≤ j → ¬ T j := fun j hj hc => by
    have h3 := hT j hc
    unfold AXb at h3
    omega
  exact ⟨⟨kp.cu h.c0 h1, kp.cu h.c1 h1, kp.cu h.c2 h1, kp.cu h.c3 h1, kp.cu h.c4 h1, kp.cu h.c5 h1, kp.cu h.c6 h1, kp.cu h.c7 h1, kp.cu h.c8 h1, kp.cu h.c9 h1, kp.cu h.c10 h1, kp.cu h.c11 h1, kp.cu h.c12 h1⟩,
    fun o => (kp.frozen (p := ⟨sb, o, none⟩) (show sb < _ from cell_lt h.c0) h1).trans (h.fz o), h.heap.keep kp h2 (fun j hj => hbig j (h.hs j hj)), kp.own h.late (fun j hj => hbig j (h.late.block_lt j hj).1), kp.own h.rnds (fun j hj => hbig j (h.rnds.block_lt j hj).1), h.told.keep kp (fun j hj => hbig j (h.told.lt hj).1), h.keep.trans2 kp (fun j hj => .inl (hT j hj)), h.nf.keep kp (fun j hj => .inl (.inl (hT j hj))) (fun j hj => .inl hj)⟩
theorem AX.setC (h : AX n sb gc gp gd gh ev ov hv wv tg v k f lv ls rv ros s wS wr) (u : Nat) (hu : u < n) (x : Int) : AX n sb gc gp gd gh ev ov hv wv tg v k f lv ls rv ros { s with cost := upz s.cost u x } wS (wr.setCell ⟨gc, u, none⟩ (.int .i64 x)) := by
  have hn := h.ne
  have kp := (Keep.refl (fun j => j = gc) wr).setCell (p := ⟨gc, u, none⟩) (.inl rfl) (.int .i64 x)
  obtain ⟨⟨a0, a1, a2, a3, a4, a5, a6, a7, a8, a9, a10, a11, a12⟩, b1, b2, b3, b4, b5, b6, b7⟩ := h.own kp (fun j hj => by subst hj; exact .inr (.inl rfl)) (fun e => by omega) (fun e => by omega)
  exact ⟨a0, a1, a2, a3, a4, a5, a6, a7, a8, a9, a10, a11, a12, b1, h.cost.setI u hu x, kp.own h.pred (fun j hj => by simp [Value.ownBlock] at hj; omega), kp.own h.lk (fun j hj => by simp [Value.ownBlock] at hj; omega), b2, b3, b4, b5, b6, h.hs, h.apL, h.apR, h.apP, h.lt, h.ne, b7⟩
theorem AX.setP (h : AX n sb gc gp gd gh ev ov hv wv tg v k f lv ls rv ros s wS wr) (u : Nat) (hu : u < n) (x : Int) : AX n sb gc gp gd gh ev ov hv wv tg v k f lv ls rv ros { s with pred := upz s.pred u x } wS (wr.setCell ⟨gp, u, none⟩ (.int .i64 x)) := by
  have hn := h.ne
  have kp := (Keep.refl (fun j => j = gp) wr).setCell (p := ⟨gp, u, none⟩) (.inl rfl) (.int .i64 x)
  obtain ⟨⟨a0, a1, a2, a3, a4, a5, a6, a7, a8, a9, a10, a11, a12⟩, b1, b2, b3, b4, b5, b6, b7⟩ := h.own kp (fun j hj => by subst hj; exact .inr (.inr (.inl rfl))) (fun e => by omega) (fun e => by omega)
  exact ⟨a0, a1, a2, a3, a4, a5, a6, a7, a8, a9, a10, a11, a12, b1, kp.own h.cost (fun j hj => by simp [Value.ownBlock] at hj; omega), h.pred.setI u hu x, kp.own h.lk (fun j hj => by simp [Value.ownBlock] at hj; omega), b2, b3, b4, b5, b6, h.hs, h.apL, h.apR, h.apP, h.lt, h.ne, b7⟩
theorem AX.setK (h : AX n sb gc gp gd gh ev ov hv wv tg v k f lv ls rv ros s wS wr) (u : Nat) (hu : u < n) (x : Bool) : AX n sb gc gp gd gh ev ov hv wv tg v k f lv ls rv ros { s with lk := upz s.lk u x } wS (wr.setCell ⟨gd, u, none⟩ (.bool x)) := by
  have hn := h.ne
  have kp := (Keep.refl (fun j => j = gd) wr).setCell (p := ⟨gd, u, none⟩) (.inl rfl) (.bool x)
  obtain ⟨⟨a0, a1, a2, a3, a4, a5, a6, a7, a8, a9, a10, a11, a12⟩, b1, b2, b3, b4, b5, b6, b7⟩ := h.own kp (fun j hj => by subst hj; exact .inr (.inr (.inr (.inl rfl)))) (fun e => by omega) (fun e => by omega)
  exact ⟨a0, a1, a2, a3, a4, a5, a6, a7, a8, a9, a10, a11, a12, b1, kp.own h.cost (fun j hj => by simp [Value.ownBlock] at hj; omega), kp.own h.pred (fun j hj => by simp [Value.ownBlock] at hj; omega), h.lk.setLB u hu x, b2, b3, b4, b5, b6, h.hs, h.apL, h.apR, h.apP, h.lt, h.ne, b7⟩
/-- only what the object itself does not hold is another -/
theorem AX.re (h : AX n sb gc gp gd gh ev ov hv wv tg v k f lv ls rv ros s wS wr) (s' : AS) (h1 : s'.cost = s.cost) (h2 : s'.pred = s.pred) (h3 : s'.lk = s.lk) (h4 : s'.done = s.done) (h5 : s'.told = s.told) : AX n sb gc gp gd gh ev ov hv wv tg v k f lv ls rv ros s' wS wr :=
  ⟨h.c0, h.c1, h.c2, h.c3, h.c4, h.c5, h.c6, h.c7, h.c8, h.c9, h.c10, h4 ▸ h.c11, h.c12, h.fz, h1 ▸ h.cost, h2 ▸ h.pred, h3 ▸ h.lk, h.heap, h.late, h.rnds, h5 ▸ h.told, h.keep, h.hs, h.apL, h.apR, h.apP, h.lt, h.ne, h.nf⟩
theorem AX.atK (h : AX n sb gc gp gd gh ev ov hv wv tg v k f lv ls rv ros s wS wr) (u : Nat) (hu : u < n) : wr.cell? ⟨gd, u, none⟩ = some (.bool (s.lk u)) := h.lk.atLB u hu
/-- a cell of the object's own is written: steps -/
theorem AX.setS (h : AX n sb gc gp gd gh ev ov hv wv tg v k f lv ls rv ros s wS wr) (d : Nat) : AX n sb gc gp gd gh ev ov hv wv tg v k f lv ls rv ros { s with done := d } wS (wr.setCell ⟨sb, 11, none⟩ (.int .i64 (d : Int))) := by
  have hn := h.ne
  have hl := h.lt
  have kp := (Keep.refl (fun j => j = sb) wr).setCell (p := ⟨sb, 11, none⟩) (.inl rfl) (.int .i64 (d : Int))
  have hbig : ∀ j, wS.heap.size ≤ j → ¬ j = sb := fun j hj hc => by omega
  exact ⟨cu_set_off h.c0 (by omega), cu_set_off h.c1 (by omega), cu_set_off h.c2 (by omega), cu_set_off h.c3 (by omega), cu_set_off h.c4 (by omega), cu_set_off h.c5 (by omega), cu_set_off h.c6 (by omega), cu_set_off h.c7 (by omega), cu_set_off h.c8 (by omega), cu_set_off h.c9 (by omega), cu_set_off h.c10 (by omega), World.cell?_setCell_same _ _ _ h.c11, cu_set_off h.c12 (by omega), fun o => fu_set (h.fz o),
    kp.own h.cost (fun j hj => by simp [Value.ownBlock] at hj; omega), kp.own h.pred (fun j hj => by simp [Value.ownBlock] at hj; omega), kp.own h.lk (fun j hj => by simp [Value.ownBlock] at hj; omega), h.heap.keep kp (by omega) (fun j hj => hbig j (h.hs j hj)), kp.own h.late (fun j hj => hbig j (h.late.block_lt j hj).1), kp.own h.rnds (fun j hj => hbig j (h.rnds.block_lt j hj).1), h.told.keep kp (fun j hj => hbig j (h.told.lt hj).1), h.keep.setCell (.inl (.inl rfl)) _, h.hs, h.apL, h.apR, h.apP, h.lt, h.ne, h.nf.keep kp (fun j hj => .inl (.inl (.inl hj))) (fun j hj => .inl hj)⟩
/-- the late ones are another list: fresh, or as it was and grown -/
theorem AX.setL (h : AX n sb gc gp gd gh ev ov hv wv tg v k f lv ls rv ros s wS wr) {lv' : Value} {ls' : List Nat} (kp : Keep (fun j => lv.ownBlock = some j) wr w') (ho : Own encI 1 3 w' wS.heap.size lv' (LP ls')) (hb : ∀ j, lv'.ownBlock = some j → lv.ownBlock = some j ∨ wr.heap.size ≤ j) : AX n sb gc gp gd gh ev ov hv wv tg v k f lv' ls' rv ros s wS (w'.setCell ⟨sb, 9, none⟩ lv') := by
  have hn := h.ne
  have hl := h.lt
  have hlo : ∀ j, lv.ownBlock = some j → wS.heap.size ≤ j ∧ j < wr.heap.size := fun j hj => h.late.block_lt j hj
  have hno : ∀ j, j < wS.heap.size → lv.ownBlock ≠ some j := fun j hj e => by have := (hlo j e).1; omega
  have hK : Keep (fun j => lv.ownBlock = some j ∨ j = sb) wr (w'.setCell ⟨sb, 9, none⟩ lv') := (kp.mono (fun j _ hj => .inl hj)).setCell (p := ⟨sb, 9, none⟩) (.inl (.inr rfl)) lv'
  have hbig : ∀ j, wS.heap.size ≤ j → lv.ownBlock ≠ some j → ¬ (lv.ownBlock = some j ∨ j = sb) := fun j hj h1 hc => by rcases hc with hc | hc; exact h1 hc; omega
  have hsb : ∀ o x, o ≠ 9 → wr.cell? ⟨sb, o, none⟩ = some x → (w'.setCell ⟨sb, 9, none⟩ lv').cell? ⟨sb, o, none⟩ = some x := fun o x ho2 hc => cu_set_off (kp.cu hc (hno sb (by omega))) (fun e => ho2 e.symm)
  have hnew : ∀ j, lv'.ownBlock = some j → v.ownBlock ≠ some j ∧ rv.ownBlock ≠ some j ∧ ¬ Pathb ros j := fun j hj => by
    rcases hb j hj with h1 | h1
    · exact ⟨(h.apL j h1).1, (h.apL j h1).2, fun hp => (h.apP j hp).2.1 h1⟩
    · refine ⟨fun e => ?_, fun e => ?_, fun hp => ?_⟩
      · have := (h.heap.own.block_lt j e).2; omega
      · have := (h.rnds.block_lt j e).2; omega
      · have := (h.told.lt hp).2; omega
  exact ⟨hsb 0 _ (by omega) h.c0, hsb 1 _ (by omega) h.c1, hsb 2 _ (by omega) h.c2, hsb 3 _ (by omega) h.c3, hsb 4 _ (by omega) h.c4, hsb 5 _ (by omega) h.c5, hsb 6 _ (by omega) h.c6, hsb 7 _ (by omega) h.c7, hsb 8 _ (by omega) h.c8, World.cell?_setCell_same _ _ _ (kp.cu h.c9 (hno sb (by omega))), hsb 10 _ (by omega) h.c10, hsb 11 _ (by omega) h.c11, hsb 12 _ (by omega) h.c12,
    fun o => fu_set ((kp.frozen (p := ⟨sb, o, none⟩) (show sb < _ from cell_lt h.c0) (hno sb (by omega))).trans (h.fz o)),
    hK.own h.cost (fun j hj hc => by simp [Value.ownBlock] at hj; rcases hc with hc | hc; (exact hno j (by omega) hc); omega), hK.own h.pred (fun j hj hc => by simp [Value.ownBlock] at hj; rcases hc with hc | hc; (exact hno j (by omega) hc); omega), hK.own h.lk (fun j hj hc => by simp [Value.ownBlock] at hj; rcases hc with hc | hc; (exact hno j (by omega) hc); omega),
    h.heap.keep hK (fun hc => by rcases hc with hc | hc; (exact hno gh (by omega) hc); omega) (fun j hj => hbig j (h.hs j hj) (fun e => (h.apL j e).1 hj)),
    ho.elsewhere (fun e => by have := (ho.block_lt sb e).1; omega) _, hK.own h.rnds (fun j hj => hbig j (h.rnds.block_lt j hj).1 (fun e => (h.apL j e).2 hj)), h.told.keep hK (fun j hj => hbig j (h.told.lt hj).1 (h.apP j hj).2.1),
    (h.keep.trans2 kp (fun j hj => .inr (hlo j hj).1)).setCell (.inl (.inl rfl)) _, h.hs, fun j hj => ⟨(hnew j hj).1, (hnew j hj).2.1⟩, h.apR, fun j hj => ⟨(h.apP j hj).1, fun e => (hnew j e).2.2 hj, (h.apP j hj).2.2⟩, h.lt, h.ne,
    h.nf.keep hK (fun j hj => .inl (by rcases hj with hj | hj; exact .inr (.inr (.inl hj)); exact .inl (.inl hj))) (fun j hj => by
      rcases hj with h1 | h1 | h1 | h1 | h1
      · exact .inl (.inl h1)
      · exact .inl (.inr (.inl h1))
      · exact (hb j h1).imp (fun h2 => .inr (.inr (.inl h2))) .inl
      · exact .inl (.inr (.inr (.inr (.inl h1))))
      · exact .inl (.inr (.inr (.inr (.inr h1)))))⟩
end
end Go.Proofs.Ytccailcjclbhlaa

/-! What holds while a search by rounds runs, as its heap and its rounds change. No condition. -/
namespace Go.Proofs.Ytccailcjclbhlaa
open Go.RowKit
set_option linter.unusedSimpArgs false
set_option linter.unusedVariables false
section
variable [AFr]
variable {n sb gc gp gd gh : Nat} {ev ov hv wv : Value} {tg : Int} {v : Value} {k : Nat} {f : Nat → Ed} {lv : Value} {ls : List Nat} {rv : Value} {ros : List RV} {s : AS} {wS wr w' : World}
omit [AFr] in
theorem pathb_app {ros : List RV} {r : RV} {j : Nat} : Pathb (ros ++ [r]) j ↔ Pathb ros j ∨ (Value.slice r.pa r.pm r.pc).ownBlock = some j := by
  unfold Pathb
  simp only [List.mem_append, List.mem_singleton]
  constructor
  · rintro ⟨x, hx | rfl, hj⟩
    · exact .inl ⟨x, hx, hj⟩
    · exact .inr hj
  · rintro (⟨x, hx, hj⟩ | hj)
    · exact ⟨x, .inl hx, hj⟩
    · exact ⟨r, .inr rfl, hj⟩
/-- a round more -/
theorem AX.setR (h : AX n sb gc gp gd gh ev ov hv wv tg v k f lv ls rv ros s wS wr) {r : RV} {t : RD} (hr : RoundAt wr wS.heap.size r t) (hp : ∀ j, (Value.slice r.pa r.pm r.pc).ownBlock = some j → v.ownBlock ≠ some j ∧ lv.ownBlock ≠ some j ∧ rv.ownBlock ≠ some j ∧ ¬ AFr.F j) {rv' : Value} (kp : Keep (fun j => rv.ownBlock = some j) wr w') (ho : Own encR 5 53 w' wS.heap.size rv' (ros ++ [r])) (hb : ∀ j, rv'.ownBlock = some j → rv.ownBlock = some j ∨ wr.heap.size ≤ j) : AX n sb gc gp gd gh ev ov hv wv tg v k f lv ls rv' (ros ++ [r]) { s with told := s.told ++ [t] } wS (w'.setCell ⟨sb, 12, none⟩ rv') := by
  have hn := h.ne
  have hl := h.lt
  have hro : ∀ j, rv.ownBlock = some j → wS.heap.size ≤ j ∧ j < wr.heap.size := fun j hj => h.rnds.block_lt j hj
  have hno : ∀ j, j < wS.heap.size → rv.ownBlock ≠ some j := fun j hj e => by have := (hro j e).1; omega
  have hK : Keep (fun j => rv.ownBlock = some j ∨ j = sb) wr (w'.setCell ⟨sb, 12, none⟩ rv') := (kp.mono (fun j _ hj => .inl hj)).setCell (p := ⟨sb, 12, none⟩) (.inl (.inr rfl)) rv'
  have hbig : ∀ j, wS.heap.size ≤ j → rv.ownBlock ≠ some j → ¬ (rv.ownBlock = some j ∨ j = sb) := fun j hj h1 hc => by rcases hc with hc | hc; exact h1 hc; omega
  have hsb : ∀ o x, o ≠ 12 → wr.cell? ⟨sb, o, none⟩ = some x → (w'.setCell ⟨sb, 12, none⟩ rv').cell? ⟨sb, o, none⟩ = some x := fun o x ho2 hc => cu_set_off (kp.cu hc (hno sb (by omega))) (fun e => ho2 e.symm)
  have hpl : ∀ j, (Value.slice r.pa r.pm r.pc).ownBlock = some j → wS.heap.size ≤ j ∧ j < wr.heap.size := fun j hj => hr.2.2.2.2.2.block_lt j hj
  have hnew : ∀ j, rv'.ownBlock = some j → v.ownBlock ≠ some j ∧ lv.ownBlock ≠ some j ∧ ¬ Pathb (ros ++ [r]) j := fun j hj => by
    rcases hb j hj with h1 | h1
    · refine ⟨h.apR j h1, fun e => (h.apL j e).2 h1, fun hp2 => ?_⟩
      rcases pathb_app.1 hp2 with h2 | h2
      · exact (h.apP j h2).2.2 h1
      · exact (hp j h2).2.2.1 h1
    · refine ⟨fun e => ?_, fun e => ?_, fun hp2 => ?_⟩
      · have := (h.heap.own.block_lt j e).2; omega
      · have := (h.late.block_lt j e).2; omega
      · rcases pathb_app.1 hp2 with h2 | h2
        · have := (h.told.lt h2).2; omega
        · have := (hpl j h2).2; omega
  have htold : Told wr wS.heap.size (ros ++ [r]) (s.told ++ [t]) := h.told.push hr
  exact ⟨hsb 0 _ (by omega) h.c0, hsb 1 _ (by omega) h.c1, hsb 2 _ (by omega) h.c2, hsb 3 _ (by omega) h.c3, hsb 4 _ (by omega) h.c4, hsb 5 _ (by omega) h.c5, hsb 6 _ (by omega) h.c6, hsb 7 _ (by omega) h.c7, hsb 8 _ (by omega) h.c8, hsb 9 _ (by omega) h.c9, hsb 10 _ (by omega) h.c10, hsb 11 _ (by omega) h.c11, World.cell?_setCell_same _ _ _ (kp.cu h.c12 (hno sb (by omega))),
    fun o => fu_set ((kp.frozen (p := ⟨sb, o, none⟩) (show sb < _ from cell_lt h.c0) (hno sb (by omega))).trans (h.fz o)),
    hK.own h.cost (fun j hj hc => by simp [Value.ownBlock] at hj; rcases hc with hc | hc; (exact hno j (by omega) hc); omega), hK.own h.pred (fun j hj hc => by simp [Value.ownBlock] at hj; rcases hc with hc | hc; (exact hno j (by omega) hc); omega), hK.own h.lk (fun j hj hc => by simp [Value.ownBlock] at hj; rcases hc with hc | hc; (exact hno j (by omega) hc); omega),
    h.heap.keep hK (fun hc => by rcases hc with hc | hc; (exact hno gh (by omega) hc); omega) (fun j hj => hbig j (h.hs j hj) (fun e => h.apR j e hj)),
    hK.own h.late (fun j hj => hbig j (h.late.block_lt j hj).1 (h.apL j hj).2), ho.elsewhere (fun e => by have := (ho.block_lt sb e).1; omega) _,
    htold.keep hK (fun j hj => hbig j (htold.lt hj).1 (by
      rcases pathb_app.1 hj with h2 | h2
      · exact (h.apP j h2).2.2
      · exact (hp j h2).2.2.1)),
    (h.keep.trans2 kp (fun j hj => .inr (hro j hj).1)).setCell (.inl (.inl rfl)) _, h.hs, fun j hj => ⟨(h.apL j hj).1, fun e => (hnew j e).2.1 hj⟩, fun j hj => (hnew j hj).1,
    fun j hj => by
      refine ⟨?_, ?_, fun e => (hnew j e).2.2 hj⟩
      · rcases pathb_app.1 hj with h2 | h2
        · exact (h.apP j h2).1
        · exact (hp j h2).1
      · rcases pathb_app.1 hj with h2 | h2
        · exact (h.apP j h2).2.1
        · exact (hp j h2).2.1, h.lt, h.ne,
    h.nf.keep hK (fun j hj => .inl (by rcases hj with hj | hj; exact .inr (.inr (.inr (.inl hj))); exact .inl (.inl hj))) (fun j hj => by
      rcases hj with h1 | h1 | h1 | h1 | h1
      · exact .inl (.inl h1)
      · exact .inl (.inr (.inl h1))
      · exact .inl (.inr (.inr (.inl h1)))
      · exact (hb j h1).imp (fun h2 => .inr (.inr (.inr (.inl h2)))) .inl
      · exact (pathb_app.1 h1).imp (fun h2 => .inr (.inr (.inr (.inr h2)))) (fun h2 => .inr (hp j h2).2.2.2))⟩
/-- the heap is another: its own block, its slice as it was and grown, or fresh -/
theorem AX.setH (h : AX n sb gc gp gd gh ev ov hv wv tg v k f lv ls rv ros s wS wr) {v' : Value} {k' : Nat} {f' : Nat → Ed} (kp : Keep (fun j => j = gh ∨ v.ownBlock = some j) wr w') (hh : HeapT w' gh gh (.func (.func 36) #[] #[]) v' k' f') (hb : ∀ j, v'.ownBlock = some j → v.ownBlock = some j ∨ wr.heap.size ≤ j) : AX n sb gc gp gd gh ev ov hv wv tg v' k' f' lv ls rv ros s wS w' := by
  have hn := h.ne
  have hl := h.lt
  have hz := h.big
  have hno : ∀ j, j < wS.heap.size → j ≠ gh → ¬ (j = gh ∨ v.ownBlock = some j) := fun j hj hne hc => by
    rcases hc with hc | hc
    · exact hne hc
    · have := h.hs j hc; omega
  have hbig : ∀ j, wS.heap.size ≤ j → v.ownBlock ≠ some j → ¬ (j = gh ∨ v.ownBlock = some j) := fun j hj h1 hc => by rcases hc with hc | hc; omega; exact h1 hc
  have hnew : ∀ j, v'.ownBlock = some j → wS.heap.size ≤ j ∧ lv.ownBlock ≠ some j ∧ rv.ownBlock ≠ some j ∧ ¬ Pathb ros j := fun j hj => by
    rcases hb j hj with h1 | h1
    · exact ⟨h.hs j h1, fun e => (h.apL j e).1 h1, fun e => h.apR j e h1, fun hp => (h.apP j hp).1 h1⟩
    · refine ⟨by omega, fun e => ?_, fun e => ?_, fun hp => ?_⟩
      · have := (h.late.block_lt j e).2; omega
      · have := (h.rnds.block_lt j e).2; omega
      · have := (h.told.lt hp).2; omega
  exact ⟨kp.cu h.c0 (hno sb (by omega) (by omega)), kp.cu h.c1 (hno sb (by omega) (by omega)), kp.cu h.c2 (hno sb (by omega) (by omega)), kp.cu h.c3 (hno sb (by omega) (by omega)), kp.cu h.c4 (hno sb (by omega) (by omega)), kp.cu h.c5 (hno sb (by omega) (by omega)), kp.cu h.c6 (hno sb (by omega) (by omega)), kp.cu h.c7 (hno sb (by omega) (by omega)), kp.cu h.c8 (hno sb (by omega) (by omega)), kp.cu h.c9 (hno sb (by omega) (by omega)), kp.cu h.c10 (hno sb (by omega) (by omega)), kp.cu h.c11 (hno sb (by omega) (by omega)), kp.cu h.c12 (hno sb (by omega) (by omega)),
    fun o => (kp.frozen (p := ⟨sb, o, none⟩) (show sb < _ from cell_lt h.c0) (hno sb (by omega) (by omega))).trans (h.fz o),
    kp.own h.cost (fun j hj => hno j (by simp [Value.ownBlock] at hj; omega) (by simp [Value.ownBlock] at hj; omega)), kp.own h.pred (fun j hj => hno j (by simp [Value.ownBlock] at hj; omega) (by simp [Value.ownBlock] at hj; omega)), kp.own h.lk (fun j hj => hno j (by simp [Value.ownBlock] at hj; omega) (by simp [Value.ownBlock] at hj; omega)),
    hh, kp.own h.late (fun j hj => hbig j (h.late.block_lt j hj).1 (h.apL j hj).1), kp.own h.rnds (fun j hj => hbig j (h.rnds.block_lt j hj).1 (h.apR j hj)), h.told.keep kp (fun j hj => hbig j (h.told.lt hj).1 (h.apP j hj).1),
    h.keep.trans2 kp (fun j hj => by
      rcases hj with hj | hj
      · exact .inl (.inr (.inr (.inr (.inr hj))))
      · exact .inr (h.hs j hj)), fun j hj => (hnew j hj).1, fun j hj => ⟨fun e => (hnew j e).2.1 hj, (h.apL j hj).2⟩, fun j hj e => (hnew j e).2.2.1 hj, fun j hj => ⟨fun e => (hnew j e).2.2.2 hj, (h.apP j hj).2⟩, h.lt, h.ne,
    h.nf.keep kp (fun j hj => .inl (by rcases hj with hj | hj; exact .inl (.inr (.inr (.inr (.inr hj)))); exact .inr (.inl hj))) (fun j hj => by
      rcases hj with h1 | h1 | h1 | h1 | h1
      · exact .inl (.inl h1)
      · exact (hb j h1).imp (fun h2 => .inr (.inl h2)) .inl
      · exact .inl (.inr (.inr (.inl h1)))
      · exact .inl (.inr (.inr (.inr (.inl h1))))
      · exact .inl (.inr (.inr (.inr (.inr h1)))))⟩
theorem AX.push (h : AX n sb gc gp gd gh ev ov hv wv tg v k f lv ls rv ros s wS wr) {k' : Nat} {f' : Nat → Ed} (hp : HeapedT wr gh gh (.func (.func 36) #[] #[]) v k' f' w') : ∃ gs c, AX n sb gc gp gd gh ev ov hv wv tg (.slice (some ⟨gs, 0, none⟩) k' c) k' f' lv ls rv ros s wS w' ∧ Keep (fun j => j = gh ∨ v.ownBlock = some j) wr w' ∧ (v.ownBlock = some gs ∨ wr.heap.size ≤ gs) := by
  obtain ⟨gs, c, h1, kp, h3⟩ := hp
  refine ⟨gs, c, h.setH kp h1 (fun j hj => ?_), kp, h3⟩
  simp [Value.ownBlock] at hj
  subst hj
  exact h3
theorem AX.pop (h : AX n sb gc gp gd gh ev ov hv wv tg v k f lv ls rv ros s wS wr) {gs c k' : Nat} {f' : Nat → Ed} (hv' : v.ownBlock = some gs) (h1 : HeapT w' gh gh (.func (.func 36) #[] #[]) (.slice (some ⟨gs, 0, none⟩) k' c) k' f') (kp : Keep (fun j => j = gh ∨ j = gs) wr w') : AX n sb gc gp gd gh ev ov hv wv tg (.slice (some ⟨gs, 0, none⟩) k' c) k' f' lv ls rv ros s wS w' :=
  h.setH (kp.mono (fun j _ hj => by rcases hj with hj | hj; exact .inl hj; exact .inr (by rw [hj]; exact hv'))) h1 (fun j hj => by simp [Value.ownBlock] at hj; subst hj; exact .inl hv')
/-- none was looked from -/
theorem AX.clearK (h : AX n sb gc gp gd gh ev ov hv wv tg v k f lv ls rv ros s wS wr) (kp : Keep (fun j => j = gd) wr w') (ho : Own encB 1 4 w' 0 (.slice (some ⟨gd, 0, none⟩) n n) (LB n (fun _ => false))) : AX n sb gc gp gd gh ev ov hv wv tg v k f lv ls rv ros { s with lk := fun _ => false } wS w' := by
  have hn := h.ne
  obtain ⟨⟨a0, a1, a2, a3, a4, a5, a6, a7, a8, a9, a10, a11, a12⟩, b1, b2, b3, b4, b5, b6, b7⟩ := h.own kp (fun j hj => by subst hj; exact .inr (.inr (.inr (.inl rfl)))) (fun e => by omega) (fun e => by omega)
  exact ⟨a0, a1, a2, a3, a4, a5, a6, a7, a8, a9, a10, a11, a12, b1, kp.own h.cost (fun j hj => by simp [Value.ownBlock] at hj; omega), kp.own h.pred (fun j hj => by simp [Value.ownBlock] at hj; omega), ho, b2, b3, b4, b5, b6, h.hs, h.apL, h.apR, h.apP, h.lt, h.ne, b7⟩
end
/-- what the heap holds, and what it is to hold -/
structure AHas (r : P2) (h : Nat → Int) (n : Nat) (s : AS) (X : List Ed) : Prop where
  ent : ∀ p ∈ X, ∃ v : Nat, v < n ∧ p.c = (v : Int) ∧ p.v = h v ∧ s.cost v < FAR ∧ akey r h s v ≤ p.u ∧ (s.lk v = false → s.wt v = true)
  has : ∀ v, v < n → s.wt v = true → apl r h s v ∈ X
/-- the late ones -/
def LaL (s : AS) (ls : List Nat) : Prop := ∀ v, s.la v = true ↔ v ∈ ls
end Go.Proofs.Ytccailcjclbhlaa

/-! A search by rounds: what its key, its Over, its heap's Top return; how a place is put into its heap. Conditions: the object reads as AX says, the constants as AC says. -/
namespace Go.Proofs.Ytccailcjclbhlaa
open Go.RowKit
set_option linter.unusedSimpArgs false
set_option linter.unusedVariables false
theorem row_keep {α : Type} {enc : α → List Value} {sz : Nat} {S : Nat → Prop} {w w' : World} {B : Nat} {a : Option Addr} {xs : List α} (h : Row enc sz w B a xs) (kp : Keep S w w') (hS : ∀ b o, a = some ⟨b, o, none⟩ → ¬ S b) : Row enc sz w' B a xs := by
  intro i hi
  obtain ⟨b, o, h1, h2, h3⟩ := h i hi
  exact ⟨b, o, h1, h2, fun j u hj => kp.cu (h3 j u hj) (hS b o h1)⟩
/-- a right weight -/
def WOk (r : P2) : Prop := 1 ≤ r.b ∧ r.b ≤ r.a ∧ r.a ≤ 1000000
/-- what stays all along: guesses, weights, edges -/
structure AC (n sb gc gp gd gh hc m wc el ec : Nat) (ha aw ae : Option Addr) (h : Nat → Int) (ws : List P2) (es : List Ed) (wS : World) : Prop where
  hr : Row encI 1 wS wS.heap.size ha (LI n h)
  hx : ∀ b o, ha = some ⟨b, o, none⟩ → ¬ AXb sb gc gp gd gh b
  wr : Row encP 2 wS wS.heap.size aw ws
  wx : ∀ b o, aw = some ⟨b, o, none⟩ → ¬ AXb sb gc gp gd gh b
  er : ∀ wz, Keep (AXb sb gc gp gd gh) wS wz → Row encE 3 wz wS.heap.size ae es
  hn : 1 ≤ n ∧ n ≤ 64
  hh : ∀ u, u < n → 0 ≤ h u ∧ h u ≤ 1099511627776
  hw : ∀ r ∈ ws, WOk r
  wl : ws.length = m ∧ 1 ≤ m ∧ m ≤ 8
  es : Right n es ∧ (∀ e ∈ es, 1 ≤ e.c) ∧ es.length = el ∧ el ≤ 600
theorem akey_b {r : P2} (h : WOk r) {c g : Int} (h1 : 0 ≤ c) (h2 : c ≤ 1000000000) (h3 : 0 ≤ g) (h4 : g ≤ 1099511627776) : 0 ≤ r.b * c ∧ r.b * c ≤ 1000000000000000 ∧ 0 ≤ r.a * g ∧ r.a * g ≤ 1099511627776000000 := by
  obtain ⟨b1, b2, b3⟩ := h
  have e1 : r.b * c ≤ 1000000 * 1000000000 := Int.mul_le_mul (by omega) h2 h1 (by omega)
  have e2 : r.a * g ≤ 1000000 * 1099511627776 := Int.mul_le_mul (by omega) h4 h3 (by omega)
  exact ⟨Int.mul_nonneg (by omega) h1, by omega, Int.mul_nonneg (by omega) h3, by omega⟩
theorem akey1_any (r : P2) (h : WOk r) (kb : Nat) (c g : Int) (h1 : 0 ≤ c) (h2 : c ≤ 1000000000) (h3 : 0 ≤ g) (h4 : g ≤ 1099511627776) (w : World) (c0 : w.cell? ⟨kb, 0, none⟩ = some (.int .i64 r.a)) (c1 : w.cell? ⟨kb, 1, none⟩ = some (.int .i64 r.b)) :
    Calls Try.prog 59 #[.int .i64 c, .int .i64 g, .pointer (some ⟨kb, 0, none⟩)] w fun e w' => e = .returned (.int .i64 (r.b * c + r.a * g)) ∧ w' = w := by
  obtain ⟨m1, m2, m3, m4⟩ := akey_b h h1 h2 h3 h4
  have w1 : IntKind.i64.wrap (r.b * c) = r.b * c := IntWalk.i64_in _ (by omega)
  have w2 : IntKind.i64.wrap (r.a * g) = r.a * g := IntWalk.i64_in _ (by omega)
  have w3 : IntKind.i64.wrap (r.b * c + r.a * g) = r.b * c + r.a * g := IntWalk.i64_in _ (by omega)
  have hlt := cell_lt c0
  clear h
  go_enter Try.func59, Try.ntmps59
  go_wp2
  go_ret
  exact ⟨rfl, rfl⟩
theorem awkey_any (a b : Int) (w : World) : Calls Try.prog 56 #[.agg #[.int .i64 a, .int .i64 b]] w fun e w' => ∃ kb, e = .returned (.func (.func 59) #[] #[.pointer (some ⟨kb, 0, none⟩)]) ∧ w'.cell? ⟨kb, 0, none⟩ = some (.int .i64 a) ∧ w'.cell? ⟨kb, 1, none⟩ = some (.int .i64 b) ∧ Below w.heap.size w w' := by
  go_enter Try.func56, Try.ntmps56
  go_wp2
  go_ret
  exact ⟨w.heap.size, rfl, by simp [go_sem], by simp [go_sem], bel⟩
section
variable [AFr]
variable {n sb gc gp gd gh hc m wc el ec q qc t rc : Nat} {ha aw ae ar : Option Addr} {ov : Value} {tg : Int} {v : Value} {f : Nat → Ed} {lv : Value} {ls : List Nat} {ros : List RV} {h : Nat → Int} {ws : List P2} {es : List Ed} {s : AS} {wS w : World}
set_option maxRecDepth 100000 in
set_option maxHeartbeats 4000000 in
theorem akey_any (u : Nat) (r : P2) (hrt : ws[t]? = some r) (hX : AX n sb gc gp gd gh (.slice ae el ec) ov (.slice ha n hc) (.slice aw m wc) tg v q f lv ls (.slice ar t rc) ros s wS w) (hC : AC n sb gc gp gd gh hc m wc el ec ha aw ae h ws es wS) (hu : u < n) (hc0 : 0 ≤ s.cost u) (hc1 : s.cost u ≤ 1000000000) :
    Calls Try.prog 48 #[.pointer (some ⟨sb, 0, none⟩), .int .i64 (u : Int)] w fun e w' => e = .returned (.int .i64 (akey r h s u)) ∧ Below w.heap.size w w' := by
  have htl : t < ws.length := (List.getElem?_eq_some_iff.1 hrt).1
  have hr : r = ws[t] := (List.getElem?_eq_some_iff.1 hrt).2.symm
  have ht : t < m := by have := hC.wl; omega
  replace hrt := hide hrt
  have hrw : WOk r := by rw [hr]; exact hC.hw _ (List.getElem_mem htl)
  have hrr := row_keep hC.wr hX.keep hC.wx
  obtain ⟨bw, ow, rfl, hbw, r0, r1⟩ := hrr.p2 t htl
  rw [← hr] at r0 r1
  obtain ⟨bh, oh, rfl, hbh, g0⟩ := (row_keep hC.hr hX.keep hC.hx).atI u hu
  have c4 := hX.c4
  have c5 := hX.c5
  have c6 := hX.c6
  have c12 := hX.c12
  have d0 := hX.cost.atI u hu
  have hg := hC.hh u hu
  have hbig := hX.big
  have hm8 := hC.wl.2.2
  have hn64 := hC.hn.2
  obtain ⟨x, hx⟩ : ∃ x, x = s.cost u := ⟨_, rfl⟩
  obtain ⟨y, hy⟩ : ∃ y, y = h u := ⟨_, rfl⟩
  have hfin := hide (show r.b * x + r.a * y = akey r h s u by rw [hx, hy]; rfl)
  rw [← hx] at d0 hc0 hc1
  rw [← hy] at g0 hg
  have hk1 := hide (fun (kb : Nat) (w' : World) (c0 : w'.cell? ⟨kb, 0, none⟩ = some (.int .i64 r.a)) (c1 : w'.cell? ⟨kb, 1, none⟩ = some (.int .i64 r.b)) => akey1_any r hrw kb x y hc0 hc1 hg.1 hg.2 w' c0 c1)
  obtain ⟨ra, rb⟩ := r
  simp only at r0 r1 hk1 hfin
  have iu : (0 : Int) ≤ (u : Int) ∧ (u : Int) < (n : Int) := by omega
  have itt : (0 : Int) ≤ (t : Int) ∧ (t : Int) < (m : Int) := by omega
  have zs := cell_lt c4
  have zc := cell_lt d0
  simp only at zs zc
  have zw : bw < w.heap.size := by omega
  have zh : bh < w.heap.size := by omega
  replace hr := hide hr
  replace hx := hide hx
  replace hy := hide hy
  have key0 := hide (show ∀ w', Below w.heap.size w w' → (Below w.heap.size w w' ∧ w'.cell? ⟨sb, 4, none⟩ = some (.slice (some ⟨bh, oh, none⟩) n hc) ∧ w'.cell? ⟨sb, 5, none⟩ = some (.slice (some ⟨bw, ow, none⟩) m wc) ∧ w'.cell? ⟨sb, 6, none⟩ = some (.slice (some ⟨gc, 0, none⟩) n n) ∧ w'.cell? ⟨sb, 12, none⟩ = some (.slice ar t rc) ∧ w'.cell? ⟨gc, u, none⟩ = some (.int .i64 x) ∧ w'.cell? ⟨bh, oh + u, none⟩ = some (.int .i64 y) ∧ w'.cell? ⟨bw, ow + t * 2, none⟩ = some (.int .i64 ra) ∧ w'.cell? ⟨bw, ow + t * 2 + 1, none⟩ = some (.int .i64 rb)) from fun w' hb =>
    ⟨hb, cu_below hb c4 zs, cu_below hb c5 zs, cu_below hb c6 zs, cu_below hb c12 zs, cu_below hb d0 zc, cu_below hb g0 zh, cu_below hb r0 zw, cu_below hb r1 zw⟩)
  clear hX hC hrr hc0 hc1 hg hrw
  go_enter Try.func48, Try.ntmps48
  go_upto_region 1 with fail
  clear c4 c5 c6 c12 d0 g0 r0 r1
  go_region_held3 (fun w' => Below w.heap.size w w' ∧ w'.cell? ⟨sb, 4, none⟩ = some (.slice (some ⟨bh, oh, none⟩) n hc) ∧ w'.cell? ⟨sb, 5, none⟩ = some (.slice (some ⟨bw, ow, none⟩) m wc) ∧ w'.cell? ⟨sb, 6, none⟩ = some (.slice (some ⟨gc, 0, none⟩) n n) ∧ w'.cell? ⟨sb, 12, none⟩ = some (.slice ar t rc) ∧ w'.cell? ⟨gc, u, none⟩ = some (.int .i64 x) ∧ w'.cell? ⟨bh, oh + u, none⟩ = some (.int .i64 y) ∧ w'.cell? ⟨bw, ow + t * 2, none⟩ = some (.int .i64 ra) ∧ w'.cell? ⟨bw, ow + t * 2 + 1, none⟩ = some (.int .i64 rb))
    (first | exact key0.out _ (below_drew _) | exact key0.out _ (by assumption))
    (first
      | (go_at_call 56; have hb4 := (‹Below w.heap.size w _ ∧ _› : _ ∧ _).1; refine (awkey_any ra rb _).mono ?_; rintro e w5 ⟨kb, rfl, q0, q1, hb5⟩; have hb6 := below_step hb4 hb5; replace q0 := hide q0; replace q1 := hide q1)
      | (go_at_call 59; have hb7 := (‹Below w.heap.size w _ ∧ _› : _ ∧ _).1; refine (hk1.out _ _ (by first | exact q0.out | exact cu_drew q0.out) (by first | exact q1.out | exact cu_drew q1.out)).mono ?_; rintro e w8 ⟨rfl, rfl⟩))
  all_goals
    have hb9 := hide (‹Below w.heap.size w w8 ∧ _› : _ ∧ _).1
    go_wp2
    go_ret
    exact ⟨ret_int hfin.out, hb9.out⟩
end
set_option maxHeartbeats 1000000 in
theorem aover_any (sb t rc m wc : Nat) (ar aw : Option Addr) (w : World) (c12 : w.cell? ⟨sb, 12, none⟩ = some (.slice ar t rc)) (c5 : w.cell? ⟨sb, 5, none⟩ = some (.slice aw m wc)) :
    Calls Try.prog 19 #[.pointer (some ⟨sb, 0, none⟩)] w fun e w' => e = .returned (.bool ((t : Int) == (m : Int))) ∧ ∃ k, w' = w.drewN k := by
  have z := cell_lt c5
  go_enter Try.func19, Try.ntmps19
  go_wp2
  go_quiet (fail)
  go_wp2
  go_ret
  exact ⟨rfl, nq, rfl⟩
set_option maxHeartbeats 1000000 in
theorem topT_any (base g n gs c0 : Nat) (f : Nat → Ed) (lf : Value) (w : World) (hH : HeapT w base g lf (.slice (some ⟨gs, 0, none⟩) (n + 1) c0) (n + 1) f) :
    Calls Try.prog 47 #[.pointer (some ⟨g, 0, none⟩)] w fun e w' => e = .returned (.agg #[.int .i64 (f 0).u, .int .i64 (f 0).v, .int .i64 (f 0).c]) ∧ Below w.heap.size w w' := by
  have c1 := hH.c1
  have zg := cell_lt c1
  have hl : 0 < (RW (n + 1) f).length := by rw [rw_len]; omega
  obtain ⟨d0, d1, d2⟩ := hH.own.getE 0 hl
  rw [rw_get] at d0 d1 d2
  have zd := cell_lt d0
  simp only [Nat.zero_mul, Nat.zero_add] at d0 d1 d2 zd
  have in1 : (0 : Int) < ((n + 1 : Nat) : Int) := by omega
  obtain ⟨p, hp⟩ : ∃ p, p = f 0 := ⟨_, rfl⟩
  rw [← hp] at d0 d1 d2 ⊢
  clear hH hp hl
  go_enter Try.func47, Try.ntmps47
  go_wp2
  refine bodyPost_ret (v := .agg #[.int .i64 p.u, .int .i64 p.v, .int .i64 p.c]) (by simp [results, Try.results47, go_sem]) rfl ?_
  exact ⟨rfl, bel⟩
section
variable [AFr]
variable {n sb gc gp gd gh hc m wc el ec q qc t rc : Nat} {ha aw ae ar a0 : Option Addr} {ov : Value} {tg : Int} {f : Nat → Ed} {lv : Value} {ls : List Nat} {ros : List RV} {h : Nat → Int} {ws : List P2} {es : List Ed} {s : AS} {wS w : World}
set_option maxRecDepth 100000 in
set_option maxHeartbeats 4000000 in
theorem aput_any (u : Nat) (r : P2) (hrt : ws[t]? = some r) (hX : AX n sb gc gp gd gh (.slice ae el ec) ov (.slice ha n hc) (.slice aw m wc) tg (.slice a0 q qc) q f lv ls (.slice ar t rc) ros s wS w) (hC : AC n sb gc gp gd gh hc m wc el ec ha aw ae h ws es wS) (hu : u < n) (hc0 : 0 ≤ s.cost u) (hc1 : s.cost u ≤ 1000000000) (hq : q ≤ 100000) :
    Calls Try.prog 45 #[.pointer (some ⟨sb, 0, none⟩), .int .i64 (u : Int)] w fun e w' => e = .returned (.tuple #[]) ∧ ∃ gs cs, AX n sb gc gp gd gh (.slice ae el ec) ov (.slice ha n hc) (.slice aw m wc) tg (.slice (some ⟨gs, 0, none⟩) (q + 1) cs) (q + 1) (siftUp plLt (upz f q (apl r h s u)) q) lv ls (.slice ar t rc) ros s wS w' ∧
      Keep (fun j => j = gh ∨ (Value.slice a0 q qc).ownBlock = some j) w w' ∧ ((Value.slice a0 q qc).ownBlock = some gs ∨ w.heap.size ≤ gs) := by
  have hKy := hide (fun (w' : World) (hX' : AX n sb gc gp gd gh (.slice ae el ec) ov (.slice ha n hc) (.slice aw m wc) tg (.slice a0 q qc) q f lv ls (.slice ar t rc) ros s wS w') => akey_any u r hrt hX' hC hu hc0 hc1)
  obtain ⟨bh, oh, rfl, hbh, g0⟩ := (row_keep hC.hr hX.keep hC.hx).atI u hu
  have hbig := hX.big
  have hpe : apl r h s u = ⟨akey r h s u, h u, (u : Int)⟩ := rfl
  rw [hpe]
  clear hpe
  obtain ⟨kk, hkk⟩ : ∃ k, k = akey r h s u := ⟨_, rfl⟩
  rw [← hkk] at hKy ⊢
  obtain ⟨y, hy⟩ : ∃ y, y = h u := ⟨_, rfl⟩
  rw [← hy] at g0 ⊢
  have zh : bh < w.heap.size := by omega
  have iu : (0 : Int) ≤ (u : Int) ∧ (u : Int) < (n : Int) := by omega
  have hKeep := hide (show ∀ w', Below w.heap.size w w' → (w'.cell? ⟨sb, 10, none⟩ = some (.pointer (some ⟨gh, 0, none⟩)) ∧ w'.cell? ⟨sb, 4, none⟩ = some (.slice (some ⟨bh, oh, none⟩) n hc) ∧ w'.cell? ⟨bh, oh + u, none⟩ = some (.int .i64 y) ∧ sb < w'.heap.size ∧ bh < w'.heap.size ∧ Hid (AX n sb gc gp gd gh (.slice ae el ec) ov (.slice (some ⟨bh, oh, none⟩) n hc) (.slice aw m wc) tg (.slice a0 q qc) q f lv ls (.slice ar t rc) ros s wS w') ∧ Hid (Below w.heap.size w w')) from fun w' hb =>
    ⟨(hX.stays hb).c10, (hX.stays hb).c4, cu_below hb g0 zh, cell_lt (hX.stays hb).c10, by have := hb.size; omega, hide (hX.stays hb), hide hb⟩)
  replace hkk := hide hkk
  replace hrt := hide hrt
  replace hy := hide hy
  clear hX g0 hC hc0 hc1
  go_enter Try.func45, Try.ntmps45
  go_upto_region 0 with fail
  refine wp_region_end (S := (fun w' => w'.cell? ⟨sb, 10, none⟩ = some (.pointer (some ⟨gh, 0, none⟩)) ∧ w'.cell? ⟨sb, 4, none⟩ = some (.slice (some ⟨bh, oh, none⟩) n hc) ∧ w'.cell? ⟨bh, oh + u, none⟩ = some (.int .i64 y) ∧ sb < w'.heap.size ∧ bh < w'.heap.size ∧ Hid (AX n sb gc gp gd gh (.slice ae el ec) ov (.slice (some ⟨bh, oh, none⟩) n hc) (.slice aw m wc) tg (.slice a0 q qc) q f lv ls (.slice ar t rc) ros s wS w') ∧ Hid (Below w.heap.size w w'))) (t := 16) (by kernel_rfl) ?_ (fun hHeld hInv => ?_)
  · exact hKeep.out _ (up_drew (Below.refl _ _))
  replace hInv := hide hInv
  refine planE [0, 1, 2, 3, 4, 5, 7, 8, 9, 10, 11, 12, 13, 14] ?_
  iterate 14
    refine PlanE.take (v := ?_) (List.getElem?_toArray.trans rfl) (by kernel_rfl) (fun _ _ _ h => h) (Or.inl ⟨by rfl, ?_⟩) hInv.out (by assumption) (fun hInv' => ?_)
    rotate_left
    · intro w hSw; (try dsimp only at hSw); go_simp; (try with_reducible rfl)
    replace hInv := hide hInv'; clear hInv'; try simp only [Act.put, List.setIfInBounds_toArray, List.set_cons_zero, List.set_cons_succ]
  refine wpAnyE_one (i := 6) (List.getElem?_toArray.trans rfl) (by kernel_rfl) (fun K hK => ?_) hInv.out
  (go_simp; refine (hKy.out _ hHeld.2.2.2.2.2.1.out).mono ?_; rintro e w4 ⟨rfl, hb4⟩)
  have hHeld := hKeep.out _ (hHeld.2.2.2.2.2.2.out.trans (hb4.mono hHeld.2.2.2.2.2.2.out.size))
  refine hK.out _ _ (fun _ => hHeld) (fun hInv' => ?_)
  clear hK K; replace hInv := hide (hInv' (by decide)); clear hInv'; try simp only [Act.put, List.setIfInBounds_toArray, List.set_cons_zero, List.set_cons_succ]
  refine planE [15] ?_
  iterate 1
    refine PlanE.take (v := ?_) (List.getElem?_toArray.trans rfl) (by kernel_rfl) (fun _ _ _ h => h) (Or.inl ⟨by rfl, ?_⟩) hInv.out (by assumption) (fun hInv' => ?_)
    rotate_left
    · intro w hSw; (try dsimp only at hSw); go_simp; (try with_reducible rfl)
    replace hInv := hide hInv'; clear hInv'; try simp only [Act.put, List.setIfInBounds_toArray, List.set_cons_zero, List.set_cons_succ]
  refine wpAnyE_one (i := 16) (List.getElem?_toArray.trans rfl) (by kernel_rfl) (fun K hK => ?_) hInv.out
  (go_simp; refine (pushT_any gh gh q a0 qc f ⟨kk, y, (u : Int)⟩ _ hHeld.2.2.2.2.2.1.out.heap (by omega)).mono ?_; rintro e w5 ⟨rfl, hP⟩)
  refine hK.out _ _ (fun h => absurd rfl h) (fun _ => ?_)
  clear hK K hInv; try simp only [Act.put, List.setIfInBounds_toArray, List.set_cons_zero, List.set_cons_succ]
  refine wpAnyE_done (by kernel_rfl) ?_ _
  obtain ⟨gs, cs, hX2, hKq, hgq⟩ := hHeld.2.2.2.2.2.1.out.push hP
  have hKr := hide (hHeld.2.2.2.2.2.2.out)
  replace hX2 := hide hX2
  replace hKq := hide hKq
  replace hgq := hide hgq
  clear hP hHeld
  go_wp2
  go_end0
  refine ⟨rfl, gs, cs, hX2.out, ?_, ?_⟩
  · exact (Keep.new hKr.out).trans hKq.out
  · rcases hgq.out with h | h
    · exact .inl h
    · exact .inr (Nat.le_trans hKr.out.size h)
end
end Go.Proofs.Ytccailcjclbhlaa

/-! A search by rounds: what reach does. Conditions: the object reads as AX says, the constants as AC says. -/
namespace Go.Proofs.Ytccailcjclbhlaa
open Go.RowKit
set_option linter.unusedSimpArgs false
set_option linter.unusedVariables false
/-- a place come to for c, from fr -/
def areachS (h : Nat → Int) (s : AS) (u : Nat) (c fr : Int) : AS :=
  if h u ≠ FAR ∧ c < s.cost u then
    { s with cost := upz s.cost u c, pred := upz s.pred u fr, wt := if s.lk u = true then s.wt else upz s.wt u true, la := if s.lk u = true then upz s.la u true else s.la }
  else s
theorem aedge_reach (h : Nat → Int) (v : Nat) (s : AS) (e : NE) (he : e.u = v) : aedge h v s e = areachS h s e.v (s.cost v + e.c) (v : Int) := by
  unfold aedge areachS
  by_cases hc : h e.v ≠ FAR ∧ s.cost v + e.c < s.cost e.v
  · rw [if_pos ⟨he, hc.1, hc.2⟩, if_pos hc]
  · rw [if_neg (fun h => hc ⟨h.2.1, h.2.2⟩), if_neg hc]
theorem akey_le {r : P2} (hr : WOk r) {h : Nat → Int} {s : AS} {u : Nat} {c : Int} (hc : c ≤ s.cost u) (p : Nat → Int) (a b : Nat → Bool) : akey r h { s with cost := upz s.cost u c, pred := p, wt := a, la := b } u ≤ akey r h s u := by
  unfold akey
  simp only [upz_same]
  have := Int.mul_le_mul_of_nonneg_left hc (show 0 ≤ r.b by have := hr.1; omega)
  omega
theorem akey_off {r : P2} {h : Nat → Int} {s : AS} {u v : Nat} {c : Int} (hne : v ≠ u) (p : Nat → Int) (a b : Nat → Bool) : akey r h { s with cost := upz s.cost u c, pred := p, wt := a, la := b } v = akey r h s v := by
  unfold akey
  simp only [upz_other _ _ hne]
theorem ahas_late {r : P2} {h : Nat → Int} {n u : Nat} {s : AS} {X : List Ed} {c : Int} {p : Nat → Int} {b : Nat → Bool} (hr : WOk r) (hk : ∀ v, s.wt v = true → s.lk v = false) (hh : AHas r h n s X) (hu : s.lk u = true) (hc : c < s.cost u) (hF : c < FAR) : AHas r h n { s with cost := upz s.cost u c, pred := p, la := b } X := by
  refine ⟨fun q hq => ?_, fun v hv hw => ?_⟩
  · obtain ⟨v, h1, h2, h3, h4, h5, h6⟩ := hh.ent q hq
    refine ⟨v, h1, h2, h3, ?_, ?_, h6⟩
    · show upz s.cost u c v < FAR
      by_cases hv : v = u
      · subst hv; rw [upz_same]; exact hF
      · rw [upz_other _ _ hv]; exact h4
    · by_cases hv : v = u
      · subst hv
        exact Int.le_trans (akey_le hr (Int.le_of_lt hc) p s.wt b) h5
      · have := akey_off (r := r) (h := h) (s := s) (c := c) hv p s.wt b
        rw [show akey r h { s with cost := upz s.cost u c, pred := p, la := b } v = akey r h s v from this]
        exact h5
  · have hne : v ≠ u := fun e => by
      subst e
      have := hk v hw
      rw [hu] at this; cases this
    have h1 := hh.has v hv hw
    have : apl r h { s with cost := upz s.cost u c, pred := p, la := b } v = apl r h s v := by
      unfold apl
      rw [show akey r h { s with cost := upz s.cost u c, pred := p, la := b } v = akey r h s v from akey_off hne p s.wt b]
    rw [this]
    exact h1
theorem ahas_put {r : P2} {h : Nat → Int} {n u : Nat} {s : AS} {X X' : List Ed} {c : Int} {p : Nat → Int} (hr : WOk r) (hh : AHas r h n s X) (hu : u < n) (hc : c < s.cost u) (hF : c < FAR)
    (hX : X'.Perm (apl r h { s with cost := upz s.cost u c, pred := p, wt := upz s.wt u true } u :: X)) : AHas r h n { s with cost := upz s.cost u c, pred := p, wt := upz s.wt u true } X' := by
  refine ⟨fun q hq => ?_, fun v hv hw => ?_⟩
  · rcases List.mem_cons.1 (hX.mem_iff.1 hq) with rfl | hq
    · refine ⟨u, hu, rfl, rfl, ?_, Int.le_refl _, fun _ => upz_same _ _ _⟩
      show upz s.cost u c u < FAR
      rw [upz_same]; exact hF
    · obtain ⟨v, h1, h2, h3, h4, h5, h6⟩ := hh.ent q hq
      refine ⟨v, h1, h2, h3, ?_, ?_, fun hl => ?_⟩
      · show upz s.cost u c v < FAR
        by_cases hv : v = u
        · subst hv; rw [upz_same]; exact hF
        · rw [upz_other _ _ hv]; exact h4
      · by_cases hv : v = u
        · subst hv
          exact Int.le_trans (akey_le hr (Int.le_of_lt hc) p (upz s.wt v true) s.la) h5
        · rw [show akey r h { s with cost := upz s.cost u c, pred := p, wt := upz s.wt u true } v = akey r h s v from akey_off hv p (upz s.wt u true) s.la]
          exact h5
      · show upz s.wt u true v = true
        by_cases hv : v = u
        · subst hv; exact upz_same _ _ _
        · rw [upz_other _ _ hv]; exact h6 hl
  · refine hX.mem_iff.2 ?_
    by_cases hvu : v = u
    · subst hvu; exact List.mem_cons_self ..
    · refine List.mem_cons_of_mem _ ?_
      have hw' : upz s.wt u true v = true := hw
      rw [upz_other _ _ hvu] at hw'
      have h1 := hh.has v hv hw'
      have : apl r h { s with cost := upz s.cost u c, pred := p, wt := upz s.wt u true } v = apl r h s v := by
        unfold apl
        rw [show akey r h { s with cost := upz s.cost u c, pred := p, wt := upz s.wt u true } v = akey r h s v from akey_off hvu p (upz s.wt u true) s.la]
      rw [this]
      exact h1
section
variable [AFr]
variable {n sb gc gp gd gh hc m wc el ec q qc t rc : Nat} {ha aw ae ar a0 : Option Addr} {ov : Value} {tg : Int} {f : Nat → Ed} {ll lc : Nat} {al : Option Addr} {ls : List Nat} {ros : List RV} {h : Nat → Int} {ws : List P2} {es : List Ed} {s : AS} {wS w : World}
/-- what reach leaves -/
def ReachAns (n sb gc gp gd gh : Nat) (ev ov hv wv : Value) (tg : Int) (rv : Value) (ros : List RV) (r : P2) (h : Nat → Int) (q ll : Nat) (s : AS) (wS : World) (e : Ending) (w' : World) : Prop :=
  e = .returned (.tuple #[]) ∧ ∃ a1 q1 c1 f1 al1 ll1 lc1 ls1, AX n sb gc gp gd gh ev ov hv wv tg (.slice a1 q1 c1) q1 f1 (.slice al1 ll1 lc1) ls1 rv ros s wS w' ∧ q1 ≤ q + 1 ∧ ll1 = ls1.length ∧ ll1 ≤ ll + 1 ∧ HeapOK plLt q1 f1 ∧ AHas r h n s (RW q1 f1) ∧ LaL s ls1
set_option maxRecDepth 100000 in
set_option maxHeartbeats 4000000 in
theorem areach_any (u : Nat) (c fr : Int) (r : P2) (hrt : ws[t]? = some r) (hX : AX n sb gc gp gd gh (.slice ae el ec) ov (.slice ha n hc) (.slice aw m wc) tg (.slice a0 q qc) q f (.slice al ll lc) ls (.slice ar t rc) ros s wS w) (hC : AC n sb gc gp gd gh hc m wc el ec ha aw ae h ws es wS) (hu : u < n) (hc0 : 0 ≤ c) (hc1 : c ≤ 1000000000) (hq : q ≤ 100000) (hll : ll = ls.length) (hl2 : ll ≤ 1000000)
    (hcb : ∀ v, s.cost v = FAR ∨ (0 ≤ s.cost v ∧ s.cost v ≤ 1000000000)) (hk : ∀ v, s.wt v = true → s.lk v = false) (hok : HeapOK plLt q f) (hhs : AHas r h n s (RW q f)) (hla : LaL s ls) :
    Calls Try.prog 28 #[.pointer (some ⟨sb, 0, none⟩), .int .i64 (u : Int), .int .i64 c, .int .i64 fr] w (ReachAns n sb gc gp gd gh (.slice ae el ec) ov (.slice ha n hc) (.slice aw m wc) tg (.slice ar t rc) ros r h q ll (areachS h s u c fr) wS) := by
  have hrw : WOk r := hC.hw r (List.mem_of_getElem? hrt)
  have c4 := hX.c4
  have c6 := hX.c6
  have c7 := hX.c7
  have c8 := hX.c8
  have d0 := hX.atK u hu
  have d1 := hX.cost.atI u hu
  have d3 := hX.pred.atI u hu
  have fc := hX.cost.free u
  have fp := hX.pred.free u
  obtain ⟨b, o, rfl, hb, d2⟩ := (row_keep hC.hr hX.keep hC.hx).atI u hu
  have hbx := hC.hx b o rfl
  have hbig := hX.big
  have iu : (0 : Int) ≤ (u : Int) ∧ (u : Int) < (n : Int) := by omega
  have hne := hX.ne
  have zs := cell_lt c4
  have zc := cell_lt d1
  have zp := cell_lt d3
  have zk := cell_lt d0
  simp only at zs zc zp zk
  have zh : b < w.heap.size := by omega
  have hcu := hcb u
  by_cases hgo : h u ≠ FAR ∧ c < s.cost u
  · have e1 : areachS h s u c fr = { s with cost := upz s.cost u c, pred := upz s.pred u fr, wt := if s.lk u = true then s.wt else upz s.wt u true, la := if s.lk u = true then upz s.la u true else s.la } := by unfold areachS; rw [if_pos hgo]
    rw [e1]
    have hX2 := hide ((hX.setC u hu c).setP u hu fr)
    have hF : c < FAR := by unfold FAR; omega
    have hbc : b ≠ gc := fun e => hbx (.inr (.inl e))
    have hbp : b ≠ gp := fun e => hbx (.inr (.inr (.inl e)))
    have hsc : sb ≠ gc ∧ sb ≠ gp ∧ gc ≠ gp ∧ gd ≠ gc ∧ gd ≠ gp := by omega
    obtain ⟨hg1, hg2⟩ := hgo
    obtain ⟨x, hx⟩ : ∃ x, x = s.cost u := ⟨_, rfl⟩
    obtain ⟨y, hy⟩ : ∃ y, y = h u := ⟨_, rfl⟩
    rw [← hx] at d1 hg2
    rw [← hy] at d2 hg1
    have q1 : (y == 1099511627776) = false := by simpa [FAR] using hg1
    have q2 : ¬ x ≤ c := by omega
    by_cases hlk : s.lk u = true
    · rw [hlk] at d0
      simp only [if_pos hlk]
      have hhs2 := hide (ahas_late (p := upz s.pred u fr) (b := upz s.la u true) hrw hk hhs hlk (by rw [← hx]; exact hg2) hF)
      have hla2 := hide (show LaL ({ s with cost := upz s.cost u c, pred := upz s.pred u fr, la := upz s.la u true } : AS) (ls ++ [u]) from fun v => by
        show upz s.la u true v = true ↔ v ∈ ls ++ [u]
        simp only [List.mem_append, List.mem_singleton]
        by_cases hv : v = u
        · subst hv; simp [upz_same]
        · rw [upz_other _ _ hv, hla v]; simp [hv])
      have hlw : (LP ls).length = ll := by rw [lp_len]; exact hll.symm
      have hla3 := hide (lp_app ls u)
      have hll2 := hide (show ll + 1 = (ls ++ [u]).length by rw [List.length_append, hll]; rfl)
      replace hok := hide hok
      replace hx := hide hx
      replace hy := hide hy
      replace hll := hide hll
      clear hX hC hcb hk hhs hla hne hbx e1 hcu hrt hg1
      go_enter Try.func28, Try.ntmps28
      go_wp2
      go_region
      have hX3 := hX2.out.stays (below_drew _)
      clear c4 c6 c7 c8 d0 d1 d2 d3 fc fp zs zc zp zk zh hX2
      generalize ((w.setCell ⟨gc, u, none⟩ (.int .i64 c)).setCell ⟨gp, u, none⟩ (.int .i64 fr)).drew = w2 at hX3 ⊢
      have k8 := hX3.c8
      have k9 := hX3.c9
      have f9 := hX3.fz 9
      have kd : w2.cell? ⟨gd, u, none⟩ = some (.bool true) := by have h := hX3.atK u hu; simp only [hlk] at h; exact h
      have zs2 := cell_lt k8
      have zk2 := cell_lt kd
      simp only at zs2 zk2
      have hoL := hide (fun j hj => (hX3.late.block_lt j hj))
      have hsbl := hX3.lt.1
      have hwz : wS.heap.size ≤ w2.heap.size := hX3.keep.size
      replace hX3 := hide hX3
      have hsl := hide hlk
      clear hlk
      go_wp2_with (at_builtin; (refine wpList_pushL (e := 3) (enc := encI) (xs := (LP ls)) (v := .slice al (ll) lc) (base := wS.heap.size) rfl (.tmp 52) (.tmp 54) 22 rfl _ 8 Try.underlying22 info_int rfl ?d18 lenI oneI (ll) ?d28 ?d38 ?d48 ⟨w2.heap.size, 0, none⟩ 1 (u : Int) ?d58 ?d68 ?d78 ?d88 ?d98 ?_); (case d18 => omega); (case d28 => exact hlw); (case d38 => rfl); (case d48 => exact (hX3.out.late.alloc _)); (case d58 => rfl); (case d68 => exact newI _ _ _ _ rfl); (case d78 => omega); (case d88 => unfold maxLen; omega); (case d98 => first | omega | (simp; done) | (simp; omega)); intro g8 c8 w8 own8 hb8 hgr8 hat8 hgl8; rw [← hla3.out] at own8; have kp8 := Keep.grown (S := fun j => (Value.slice al ll lc).ownBlock = some j) (Keep.refl _ _) hgr8 (fun j hj => .inl hj); have hno8 : (Value.slice al ll lc).ownBlock ≠ some sb := (fun e => by have := (hoL.out _ e).1; omega); have m9 := kp8.cu (cu_alloc (o := .cells #[.int .i64 (u : Int)] 3) k9) hno8; have g9 := (kp8.frozen (p := ⟨sb, 9, none⟩) (by simp; omega) hno8).trans (fu_alloc f9); have hX4 := hide ((hX3.out.stays ((Below.refl _ _).alloc (Nat.le_refl _) (.cells #[.int .i64 (u : Int)] 3))).setL kp8 own8 (fun j hj => by simp only [Value.ownBlock, Option.some.injEq] at hj; subst hj; exact hat8.imp id (fun e => Nat.le_of_eq e.symm))); have z9 := cell_lt m9; replace hgr8 := hide hgr8; replace hb8 := hide hb8; clear kp8 own8 hat8)
      go_end0
      refine ⟨rfl, _, _, _, _, _, ll + 1, c8, ls ++ [u], hX4.out.re _ rfl rfl rfl rfl rfl, by omega, hll2.out, Nat.le_refl _, hok.out, hhs2.out, hla2.out⟩
    · have hlf : s.lk u = false := by simpa using hlk
      rw [hlf] at d0
      simp only [if_neg hlk]
      obtain ⟨h1, h2⟩ := push_ok plLt_ord hok (apl r h { s with cost := upz s.cost u c, pred := upz s.pred u fr, wt := upz s.wt u true } u)
      have hhs2 := hide (ahas_put (p := upz s.pred u fr) hrw hhs hu (by rw [← hx]; exact hg2) hF (h2.trans List.perm_append_comm))
      replace h1 := hide h1
      clear h2
      have hla2 := hide (show LaL ({ s with cost := upz s.cost u c, pred := upz s.pred u fr, wt := upz s.wt u true } : AS) ls from hla)
      have hPut := hide (fun (w' : World) (hX' : AX n sb gc gp gd gh (.slice ae el ec) ov (.slice (some ⟨b, o, none⟩) n hc) (.slice aw m wc) tg (.slice a0 q qc) q f (.slice al ll lc) ls (.slice ar t rc) ros { s with cost := upz s.cost u c, pred := upz s.pred u fr, wt := upz s.wt u true } wS w') => aput_any u r hrt hX' hC hu (by show 0 ≤ upz s.cost u c u; rw [upz_same]; exact hc0) (by show upz s.cost u c u ≤ 1000000000; rw [upz_same]; exact hc1) hq)
      replace hx := hide hx
      replace hy := hide hy
      clear hX hC hcb hk hhs hla hne hbx e1 hcu hrt hg1 hok
      go_enter Try.func28, Try.ntmps28
      go_wp2
      go_region
      have hX3 := hX2.out.stays (below_drew _)
      clear c4 c6 c7 c8 d0 d1 d2 d3 fc fp zs zc zp zk zh hX2
      generalize ((w.setCell ⟨gc, u, none⟩ (.int .i64 c)).setCell ⟨gp, u, none⟩ (.int .i64 fr)).drew = w2 at hX3 ⊢
      have k8 := hX3.c8
      have kd : w2.cell? ⟨gd, u, none⟩ = some (.bool false) := by have h := hX3.atK u hu; simp only [hlf] at h; exact h
      have zs2 := cell_lt k8
      have zk2 := cell_lt kd
      simp only at zs2 zk2
      have hPut2 := hide (hPut.out w2 (hX3.re _ rfl rfl rfl rfl rfl))
      clear hPut hX3
      have hsl := hide hlf
      clear hlk hlf
      go_wp2_with fail
      refine hPut2.out.mono ?_
      rintro e w3 ⟨rfl, gs, cs, hX4, _, _⟩
      replace hX4 := hide hX4
      go_wp2
      go_end0
      exact ⟨rfl, _, _, _, _, _, _, _, _, hX4.out, Nat.le_refl _, hll, by omega, h1.out, hhs2.out, hla2.out⟩
  · have e1 : areachS h s u c fr = s := by unfold areachS; rw [if_neg hgo]
    rw [e1]
    have hfin := hide (show ReachAns n sb gc gp gd gh (.slice ae el ec) ov (.slice (some ⟨b, o, none⟩) n hc) (.slice aw m wc) tg (.slice ar t rc) ros r h q ll s wS (.returned (.tuple #[])) w from ⟨rfl, _, _, _, _, _, _, _, _, hX, by omega, hll, by omega, hok, hhs, hla⟩)
    obtain ⟨x, hx⟩ : ∃ x, x = s.cost u := ⟨_, rfl⟩
    obtain ⟨y, hy⟩ : ∃ y, y = h u := ⟨_, rfl⟩
    rw [← hx] at d1 hgo
    rw [← hy] at d2 hgo
    have hgo2 : x ≤ c ∨ y = 1099511627776 := by
      by_cases h1 : y = FAR
      · exact .inr h1
      · exact .inl (Int.not_lt.1 fun h2 => hgo ⟨h1, h2⟩)
    replace hx := hide hx
    replace hy := hide hy
    generalize ReachAns n sb gc gp gd gh (.slice ae el ec) ov (.slice (some ⟨b, o, none⟩) n hc) (.slice aw m wc) tg (.slice ar t rc) ros r h q ll s wS = P at hfin ⊢
    clear hX hC hcb hk hhs hla hne hbx e1 hcu hrt hok hgo
    go_enter Try.func28, Try.ntmps28
    by_cases h1 : x ≤ c
    · clear hgo2
      go_wp2
      ((try simp only [Exit.inBlock, Exit.then]); refine bodyPost_ret (results_none rfl _ _ _) rfl ?_)
      exact hfin.out
    · have h2 : y = 1099511627776 := by rcases hgo2 with h | h; exact absurd h h1; exact h
      subst h2
      clear hgo2
      go_wp2
      ((try simp only [Exit.inBlock, Exit.then]); refine bodyPost_ret (results_none rfl _ _ _) rfl ?_)
      exact hfin.out
end
end Go.Proofs.Ytccailcjclbhlaa

/-! A search by rounds: what fresh does. Conditions: the object reads as AX says, the constants as AC says. -/
namespace Go.Proofs.Ytccailcjclbhlaa
open Go.RowKit
set_option linter.unusedSimpArgs false
set_option linter.unusedVariables false
theorem ahas_drop {r : P2} {h : Nat → Int} {n : Nat} {s : AS} {X X' : List Ed} {p : Ed} (hh : AHas r h n s X) (hk : ∀ v, s.wt v = true → s.lk v = false) (hp : (p :: X').Perm X) {v : Nat} (hc : p.c = (v : Int)) (hd : s.lk v = true ∨ p.u ≠ akey r h s v) : AHas r h n s X' := by
  refine ⟨fun q hq => hh.ent q (hp.mem_iff.1 (List.mem_cons_of_mem _ hq)), fun u hu hw => ?_⟩
  rcases List.mem_cons.1 (hp.mem_iff.2 (hh.has u hu hw)) with h1 | h1
  · exfalso
    have h2 : u = v := by
      have : ((u : Nat) : Int) = p.c := by rw [← h1]; rfl
      omega
    subst h2
    rcases hd with h3 | h3
    · have := hk u hw; rw [h3] at this; cases this
    · exact h3 (by rw [← h1]; rfl)
  · exact h1
theorem ahas_hit {r : P2} {h : Nat → Int} {n : Nat} {s : AS} {q : Nat} {f : Nat → Ed} {pk : Int} {u : Nat} (hh : AHas r h n s (RW (q + 1) f)) (hok : HeapOK plLt (q + 1) f) (hu : u < n) (hf : f 0 = ⟨pk, h u, (u : Int)⟩) (hl : s.lk u = false) (hk : pk = akey r h s u) : ANext r h n s u ∧ f 0 = apl r h s u := by
  have e : f 0 = apl r h s u := by rw [hf, hk]; rfl
  refine ⟨⟨⟨hu, ?_⟩, fun v hv hw => ?_⟩, e⟩
  · obtain ⟨v, _, h2, _, _, _, h6⟩ := hh.ent (f 0) (List.mem_map.2 ⟨0, by simp, rfl⟩)
    have : v = u := by rw [hf] at h2; simp only at h2; omega
    subst this
    exact h6 hl
  · obtain ⟨i, hi, hi2⟩ := List.mem_map.1 (hh.has v hv hw)
    rw [← e, ← hi2]
    exact heap_top plLt_ord hok i (List.mem_range.1 hi)
theorem ahas_none {r : P2} {h : Nat → Int} {n : Nat} {s : AS} {f : Nat → Ed} (hh : AHas r h n s (RW 0 f)) : ∀ v, v < n → s.wt v = false := fun v hv => by
  cases hw : s.wt v with
  | false => rfl
  | true => have := hh.has v hv hw; simp [RW] at this
section
variable [AFr]
variable {n sb gc gp gd gh hc m wc el ec q qc t rc : Nat} {ha aw ae ar a0 : Option Addr} {ov : Value} {tg : Int} {f : Nat → Ed} {lv : Value} {ls : List Nat} {ros : List RV} {h : Nat → Int} {ws : List P2} {es : List Ed} {s : AS} {wS w : World}
/-- what fresh leaves -/
def FreshAns (n sb gc gp gd gh : Nat) (ev ov hv wv : Value) (tg : Int) (lv : Value) (ls : List Nat) (rv : Value) (ros : List RV) (r : P2) (h : Nat → Int) (q : Nat) (s : AS) (wS : World) (e : Ending) (w' : World) : Prop :=
  ∃ b a1 q1 c1 f1, e = .returned (.bool b) ∧ AX n sb gc gp gd gh ev ov hv wv tg (.slice a1 q1 c1) q1 f1 lv ls rv ros s wS w' ∧ q1 ≤ q ∧ HeapOK plLt q1 f1 ∧ AHas r h n s (RW q1 f1) ∧ (b = true → 0 < q1 ∧ ∃ v, ANext r h n s v ∧ f1 0 = apl r h s v) ∧ (b = false → q1 = 0)
set_option maxRecDepth 100000 in
set_option maxHeartbeats 4000000 in
theorem afresh_any (r : P2) (hrt : ws[t]? = some r) (hX : AX n sb gc gp gd gh (.slice ae el ec) ov (.slice ha n hc) (.slice aw m wc) tg (.slice a0 q qc) q f lv ls (.slice ar t rc) ros s wS w) (hC : AC n sb gc gp gd gh hc m wc el ec ha aw ae h ws es wS) (hq : q ≤ 100000)
    (hcb : ∀ v, s.cost v = FAR ∨ (0 ≤ s.cost v ∧ s.cost v ≤ 1000000000)) (hk : ∀ v, s.wt v = true → s.lk v = false) (hok : HeapOK plLt q f) (hhs : AHas r h n s (RW q f)) :
    Calls Try.prog 46 #[.pointer (some ⟨sb, 0, none⟩)] w (FreshAns n sb gc gp gd gh (.slice ae el ec) ov (.slice ha n hc) (.slice aw m wc) tg lv ls (.slice ar t rc) ros r h q s wS) := by
  replace hX := hide hX
  replace hC := hide hC
  replace hk := hide hk
  replace hok := hide hok
  replace hhs := hide hhs
  replace hrt := hide hrt
  replace hcb := hide hcb
  go_enter Try.func46, Try.ntmps46
  go_wp2
  go_loopg [] (q + 1) (fun gk wr => ∃ (q1 : Nat) (a1 : Option Addr) (c1 : Nat) (f1 : Nat → Ed), Hid (AX n sb gc gp gd gh (.slice ae el ec) ov (.slice ha n hc) (.slice aw m wc) tg (.slice a1 q1 c1) q1 f1 lv ls (.slice ar t rc) ros s wS wr) ∧ Hid (HeapOK plLt q1 f1) ∧ Hid (AHas r h n s (RW q1 f1)) ∧ q1 < gk ∧ gk ≤ q + 1)
  case atStart => exact ⟨q, a0, qc, f, hX, hok, hhs, by omega, by omega⟩
  case round =>
    clear hX hok hhs
    obtain ⟨q1, a1, c1, f1, hX, hok, hhs, hqg, hgk⟩ := hrel
    have k10 := hX.out.c10
    have kh1 := hX.out.heap.c1
    by_cases hq0 : q1 = 0
    · subst hq0
      go_wp2_with fail
      refine (lenT_any _ _ _ _ _ kh1).mono ?_
      rintro e w5 ⟨rfl, rfl⟩
      go_wp2
      go_ret
      exact ⟨false, _, _, _, _, rfl, hX.out, Nat.zero_le _, hok.out, hhs.out, (fun e => by cases e), fun _ => rfl⟩
    · obtain ⟨q', rfl⟩ : ∃ q', q1 = q' + 1 := ⟨q1 - 1, by omega⟩
      obtain ⟨gs, rfl, hgs1, hgs2⟩ := hX.out.heap.own.blockI' (by omega)
      have hqp : (0 : Int) < ((q' + 1 : Nat) : Int) := by omega
      obtain ⟨u, hun, hpc, hpv, huF, hpk, hlw⟩ := hhs.out.ent (f1 0) (by rw [RW]; exact List.mem_map.2 ⟨0, by simp, rfl⟩)
      obtain ⟨pk, hpk0⟩ : ∃ pk, pk = (f1 0).u := ⟨_, rfl⟩
      have hf0 : f1 0 = ⟨pk, h u, (u : Int)⟩ := by rw [hpk0, ← hpc, ← hpv]
      have hTop := topT_any gh gh q' gs c1 f1 _ wr hX.out.heap
      rw [hf0] at hTop
      have hTop := hide hTop
      obtain ⟨p1, p2⟩ := pop_ok plLt_ord hok.out
      have p1 := hide p1
      have p2 := hide p2
      have hPop := hide (fun (w' : World) (hb : Below wr.heap.size wr w') => popT_any gh gh q' gs c1 f1 w' ((hX.out.stays hb).heap) (by omega))
      have hXk := hide (fun (wa : World) (hb : Below wr.heap.size wr wa) (w' : World) (f' : Nat → Ed) h1 h2 => (hX.out.stays hb).pop (w' := w') (gs := gs) (c := c1) (k' := q') (f' := f') rfl h1 h2)
      have hcu := hcb.out u
      have hKy := hide (fun (w' : World) (hb : Below wr.heap.size wr w') => akey_any u r hrt.out (hX.out.stays hb) hC.out hun (by unfold FAR at *; omega) (by unfold FAR at *; omega))
      obtain ⟨kk, hkk⟩ : ∃ k, k = akey r h s u := ⟨_, rfl⟩
      rw [← hkk] at hKy
      have dK := hX.out.atK u hun
      have k8 := hX.out.c8
      have zs := cell_lt k8
      have zk := cell_lt dK
      simp only at zs zk
      have iu : (0 : Int) ≤ (u : Int) ∧ (u : Int) < (n : Int) := by omega
      obtain ⟨y, hy⟩ : ∃ y, y = h u := ⟨_, rfl⟩
      have hhit := hide (fun (hl : s.lk u = false) (e : pk = kk) => ahas_hit hhs.out hok.out hun hf0 hl (e.trans hkk))
      have hdrop := hide (fun (hd : s.lk u = true ∨ pk ≠ kk) => ahas_drop (v := u) hhs.out hk.out p2.out hpc (by rw [hkk, ← hpk0] at *; exact hd))
      rw [← hy] at hTop hf0
      replace hy := hide hy
      replace hkk := hide hkk
      clear hpc hpv hpk hlw hcu huF hpk0
      go_wp2_with fail
      refine (lenT_any _ _ _ _ _ kh1).mono ?_
      rintro e w5 ⟨rfl, rfl⟩
      go_wp2_with fail
      refine hTop.out.mono ?_
      rintro e w6 ⟨rfl, hb6⟩
      have k8 := cu_below hb6 k8 zs
      have k10 := cu_below hb6 k10 zs
      have dK := cu_below hb6 dK zk
      have hz6 : wr.heap.size ≤ w6.heap.size := hb6.size
      clear kh1 hTop
      have hb7 := hide (up_alloc (o := .cells #[.int .i64 pk, .int .i64 y, .int .i64 (u : Int)] 92) hb6 (by omega))
      by_cases hlk : s.lk u = true
      · rw [hlk] at dK
        have hhs2 := hide (hdrop.out (.inl hlk))
        obtain ⟨w7, hw7⟩ : ∃ w7, w7 = w6.alloc (.cells #[.int .i64 pk, .int .i64 y, .int .i64 (u : Int)] 92) := ⟨_, rfl⟩
        have k8 : w7.cell? ⟨sb, 8, none⟩ = some (.slice (some ⟨gd, 0, none⟩) n n) := by rw [hw7]; exact cu_alloc k8
        have k10 : w7.cell? ⟨sb, 10, none⟩ = some (.pointer (some ⟨gh, 0, none⟩)) := by rw [hw7]; exact cu_alloc k10
        have dK : w7.cell? ⟨gd, u, none⟩ = some (.bool true) := by rw [hw7]; exact cu_alloc dK
        have m0 : w7.cell? ⟨w6.heap.size, 0, none⟩ = some (.int .i64 pk) := by rw [hw7]; simp [go_sem]
        have m2 : w7.cell? ⟨w6.heap.size, 2, none⟩ = some (.int .i64 (u : Int)) := by rw [hw7]; simp [go_sem]
        rw [← hw7] at hb7
        have key0 := hide (show ∀ w', Below w7.heap.size w7 w' → (fun w' => Below w7.heap.size w7 w' ∧ w'.cell? ⟨sb, 8, none⟩ = some (.slice (some ⟨gd, 0, none⟩) n n) ∧ w'.cell? ⟨sb, 10, none⟩ = some (.pointer (some ⟨gh, 0, none⟩)) ∧ w'.cell? ⟨gd, u, none⟩ = some (.bool true) ∧ w'.cell? ⟨w6.heap.size, 0, none⟩ = some (.int .i64 pk) ∧ w'.cell? ⟨w6.heap.size, 2, none⟩ = some (.int .i64 (u : Int))) w' from fun w' hb =>
          ⟨hb, cu_below hb k8 (cell_lt k8), cu_below hb k10 (cell_lt k10), cu_below hb dK (cell_lt dK), cu_below hb m0 (cell_lt m0), cu_below hb m2 (cell_lt m2)⟩)
        have hz7 : wr.heap.size ≤ w7.heap.size := hb7.out.size
        clear key0 hhit hdrop hlk hhs hok hKy
        go_upto_region 3 with fail
        simp only [← hw7]
        replace hw7 := hide hw7
        go_quiet (fail)
        have hb8 := hide (up_drewN (n := nq) hb7.out)
        have k10 : (w7.drewN nq).cell? ⟨sb, 10, none⟩ = some (.pointer (some ⟨gh, 0, none⟩)) := cu_drewN k10
        generalize w7.drewN nq = w8 at hb8 k10 ⊢
        clear k8 dK m0 m2 hb6 hb7
        go_wp2_with fail
        refine (hPop.out w8 hb8.out).mono ?_
        rintro e w9 ⟨rfl, hA9, hK9⟩
        have hX9 := hide (hXk.out _ hb8.out _ _ hA9 hK9)
        clear hA9 hK9
        go_wp2
        go_roundg (gk - 1)
        case measure => omega
        case rel => exact ⟨q', _, _, _, hX9, p1, hhs2, by omega, by omega⟩
      · have hlf : s.lk u = false := by simpa using hlk
        rw [hlf] at dK
        obtain ⟨w7, hw7⟩ : ∃ w7, w7 = w6.alloc (.cells #[.int .i64 pk, .int .i64 y, .int .i64 (u : Int)] 92) := ⟨_, rfl⟩
        have k8 : w7.cell? ⟨sb, 8, none⟩ = some (.slice (some ⟨gd, 0, none⟩) n n) := by rw [hw7]; exact cu_alloc k8
        have k10 : w7.cell? ⟨sb, 10, none⟩ = some (.pointer (some ⟨gh, 0, none⟩)) := by rw [hw7]; exact cu_alloc k10
        have dK : w7.cell? ⟨gd, u, none⟩ = some (.bool false) := by rw [hw7]; exact cu_alloc dK
        have m0 : w7.cell? ⟨w6.heap.size, 0, none⟩ = some (.int .i64 pk) := by rw [hw7]; simp [go_sem]
        have m2 : w7.cell? ⟨w6.heap.size, 2, none⟩ = some (.int .i64 (u : Int)) := by rw [hw7]; simp [go_sem]
        rw [← hw7] at hb7
        have key0 := hide (show ∀ w', Below w7.heap.size w7 w' → (fun w' => Below w7.heap.size w7 w' ∧ w'.cell? ⟨sb, 8, none⟩ = some (.slice (some ⟨gd, 0, none⟩) n n) ∧ w'.cell? ⟨sb, 10, none⟩ = some (.pointer (some ⟨gh, 0, none⟩)) ∧ w'.cell? ⟨gd, u, none⟩ = some (.bool false) ∧ w'.cell? ⟨w6.heap.size, 0, none⟩ = some (.int .i64 pk) ∧ w'.cell? ⟨w6.heap.size, 2, none⟩ = some (.int .i64 (u : Int))) w' from fun w' hb =>
          ⟨hb, cu_below hb k8 (cell_lt k8), cu_below hb k10 (cell_lt k10), cu_below hb dK (cell_lt dK), cu_below hb m0 (cell_lt m0), cu_below hb m2 (cell_lt m2)⟩)
        have hz7 : wr.heap.size ≤ w7.heap.size := hb7.out.size
        clear k8 k10 dK m0 m2 hlk
        go_upto_region 3 with fail
        simp only [← hw7]
        replace hw7 := hide hw7
        go_region_held3 (fun w' => Below w7.heap.size w7 w' ∧ w'.cell? ⟨sb, 8, none⟩ = some (.slice (some ⟨gd, 0, none⟩) n n) ∧ w'.cell? ⟨sb, 10, none⟩ = some (.pointer (some ⟨gh, 0, none⟩)) ∧ w'.cell? ⟨gd, u, none⟩ = some (.bool false) ∧ w'.cell? ⟨w6.heap.size, 0, none⟩ = some (.int .i64 pk) ∧ w'.cell? ⟨w6.heap.size, 2, none⟩ = some (.int .i64 (u : Int)))
          (first | exact key0.out _ (below_drew _) | exact key0.out _ (by assumption))
          ((go_at_call 48; have hb8 := (‹Below w7.heap.size w7 _ ∧ _› : _ ∧ _).1; refine (hKy.out _ (hb7.out.trans (hb8.mono hz7))).mono ?_; rintro e w8 ⟨rfl, hb9⟩; have hb9 := below_step hb8 hb9))
        all_goals
          by_cases hpk : pk = kk
          · have e1 : (pk == kk) = true := by simpa using hpk
            obtain ⟨h1, h2⟩ := hhit.out hlf hpk
            have hX9 := hide (hX.out.stays (hb7.out.trans ((‹Below w7.heap.size w7 w8 ∧ _› : _ ∧ _).1.mono hz7)))
            replace hpk := hide hpk
            replace h1 := hide h1
            replace h2 := hide h2
            rw [e1]
            go_wp2
            go_ret
            exact ⟨true, _, _, _, _, rfl, hX9.out, by omega, hok.out, hhs.out, fun _ => ⟨by omega, u, h1.out, h2.out⟩, fun e => by cases e⟩
          · have e1 : (pk == kk) = false := by simpa using hpk
            have hhs2 := hide (hdrop.out (.inr hpk))
            clear hhit hdrop hpk hhs hok hKy
            rw [e1]
            have k10 := (key0.out w8 (‹Below w7.heap.size w7 w8 ∧ _› : _ ∧ _).1).2.2.1
            have hb11 := hide (hb7.out.trans ((‹Below w7.heap.size w7 w8 ∧ _› : _ ∧ _).1.mono hz7))
            go_wp2_with fail
            refine (hPop.out w8 hb11.out).mono ?_
            rintro e w9 ⟨rfl, hA9, hK9⟩
            have hX9 := hide (hXk.out _ hb11.out _ _ hA9 hK9)
            clear hA9 hK9
            go_wp2
            go_roundg (gk - 1)
            case measure => omega
            case rel => exact ⟨q', _, _, _, hX9, p1, hhs2, by omega, by omega⟩
end
end Go.Proofs.Ytccailcjclbhlaa

/-! A search by rounds: the best way so far. Conditions: the object reads as AX says, the constants as AC says; the way up from the end is there. -/
namespace Go.Proofs.Ytccailcjclbhlaa
open Go.RowKit
set_option linter.unusedSimpArgs false
set_option linter.unusedVariables false
set_option linter.unusedSectionVars false
section
variable [AFr]
variable {n sb gc gp gd gh hc m wc el ec k t rc : Nat} {ha aw ae ar : Option Addr} {ov v : Value} {f : Nat → Ed} {lv : Value} {ls : List Nat} {ros : List RV} {h : Nat → Int} {ws : List P2} {es : List Ed} {s : AS} {wS w : World}
theorem abest_out {ev hv wv : Value} {tg : Int} (hX : AX n sb gc gp gd gh ev ov hv wv tg v k f lv ls (.slice ar t rc) ros s wS w) (ht : t = s.told.length) : ∃ pa pm pc kc, (lastWay s).1.length = pm ∧ (lastWay s).2 = kc ∧ Row encI 1 w w.heap.size pa (lastWay s).1 ∧
    ((t = 0 ∧ pa = none ∧ pm = 0 ∧ pc = 0 ∧ kc = 1099511627776) ∨ ∃ t' g, t = t' + 1 ∧ ar = some ⟨g, 0, none⟩ ∧ g < w.heap.size ∧ w.cell? ⟨g, t' * 5 + 2, none⟩ = some (.slice pa pm pc) ∧ w.cell? ⟨g, t' * 5 + 3, none⟩ = some (.int .i64 kc)) := by
  rcases t with _ | t'
  · have h0 : s.told = [] := List.eq_nil_of_length_eq_zero ht.symm
    have e : lastWay s = ([], FAR) := by unfold lastWay; rw [h0]; rfl
    rw [e]
    exact ⟨none, 0, 0, _, rfl, rfl, Row.nil _ _ _ _ _, .inl ⟨rfl, rfl, rfl, rfl, rfl⟩⟩
  · obtain ⟨r, h1, h2, h3, h4, h5, h6, h7⟩ := hX.told.2 t' (by omega)
    have hl : s.told.getLast? = some (s.told[t']'(by omega)) := by
      rw [List.getLast?_eq_getElem?, show s.told.length - 1 = t' by omega]
      exact List.getElem?_eq_getElem (by omega)
    have e : lastWay s = ((s.told[t']'(by omega)).path, (s.told[t']'(by omega)).cost) := by unfold lastWay; rw [hl]
    rw [e]
    have hrl : t' < ros.length := (List.getElem?_eq_some_iff.1 h1).1
    have hre : ros[t'] = r := (List.getElem?_eq_some_iff.1 h1).2
    obtain ⟨a', c', hv2, hrow, _⟩ := h7.row lenI
    simp only [Value.slice.injEq] at hv2
    obtain ⟨rfl, -, -⟩ := hv2
    refine ⟨r.pa, r.pm, r.pc, r.rc, h6.symm, h4.symm, hrow, .inr ?_⟩
    rcases hX.rnds.form with ⟨h8, h9⟩ | ⟨g, cap, h8, h9, h10, _⟩
    · rw [h9] at hrl; cases hrl
    · simp only [Value.slice.injEq] at h8
      obtain ⟨rfl, h11, rfl⟩ := h8
      have hget := fun j u hj => hX.rnds.get lenR t' hrl j u hj
      rw [hre] at hget
      exact ⟨t', g, rfl, rfl, h10, hget 2 _ rfl, hget 3 _ rfl⟩
/-- what each operation leaves, where the way up is made -/
def FBw (sb gp n tg : Nat) (ev : Value) (L : Nat) (pth : List Int) (cst : Int) (b0 : Nat) : Nat → Value → Nat → Nat → World → Prop
  | 0, v, _, _, _ => v = .pointer (some ⟨sb, 0, none⟩)
  | 1, v, _, _, _ => v = .pointer (some ⟨sb, 0, none⟩)
  | 2, v, _, _, _ => v = .pointer (some ⟨sb, 0, none⟩)
  | 3, v, _, _, _ => v = .agg #[.int .i64 (n : Int), ev]
  | 4, v, _, _, _ => v = .pointer (some ⟨sb, 0, none⟩)
  | 5, v, _, _, _ => v = .pointer (some ⟨sb, 0, none⟩)
  | 6, v, _, _, _ => v = .pointer (some ⟨sb, 7, none⟩)
  | 7, v, _, _, _ => v = .slice (some ⟨gp, 0, none⟩) n n
  | 8, v, _, _, _ => v = .pointer (some ⟨sb, 0, none⟩)
  | 9, v, _, _, _ => v = .pointer (some ⟨sb, 0, none⟩)
  | 10, v, _, _, _ => v = .pointer (some ⟨sb, 3, none⟩)
  | 11, v, _, _, _ => v = .int .i64 (tg : Int)
  | 12, v, lo, hi, w => ∃ a k, v = .agg #[.slice a L k, .int .i64 cst] ∧ Own encI 1 3 w lo (.slice a L k) pth ∧ (∀ j, (Value.slice a L k).ownBlock = some j → j < hi) ∧ b0 ≤ lo
  | 13, v, lo, hi, w => v = .pointer (some ⟨lo, 0, none⟩) ∧ b0 ≤ lo ∧ lo < hi ∧ w.cell? ⟨lo, 0, none⟩ = some (.slice none 0 0) ∧ w.cell? ⟨lo, 1, none⟩ = some (.int .i64 0) ∧ w.frozen? ⟨lo, 0, none⟩ = false ∧ w.frozen? ⟨lo, 1, none⟩ = false
  | _, _, _, _, _ => True
theorem fbw_stays {sb gp n tg : Nat} {ev : Value} {L : Nat} {pth : List Int} {cst : Int} {b0 : Nat} : ∀ (i : Nat) (v : Value) (lo hi : Nat) (w w' : World), FBw sb gp n tg ev L pth cst b0 i v lo hi w → Below w.heap.size w w' → FBw sb gp n tg ev L pth cst b0 i v lo hi w'
  | 0, _, _, _, _, _, h, _ => h
  | 1, _, _, _, _, _, h, _ => h
  | 2, _, _, _, _, _, h, _ => h
  | 3, _, _, _, _, _, h, _ => h
  | 4, _, _, _, _, _, h, _ => h
  | 5, _, _, _, _, _, h, _ => h
  | 6, _, _, _, _, _, h, _ => h
  | 7, _, _, _, _, _, h, _ => h
  | 8, _, _, _, _, _, h, _ => h
  | 9, _, _, _, _, _, h, _ => h
  | 10, _, _, _, _, _, h, _ => h
  | 11, _, _, _, _, _, h, _ => h
  | 12, _, _, _, _, _, ⟨a, k, h1, h2, h3, h4⟩, hb => ⟨a, k, h1, h2.stays hb, h3, h4⟩
  | 13, _, _, _, _, _, ⟨h1, h2, h3, h4, h5, h6, h7⟩, hb => ⟨h1, h2, h3, cu_below hb h4 (cell_lt h4), cu_below hb h5 (cell_lt h5), fu_below hb h6 (cell_lt h4), fu_below hb h7 (cell_lt h5)⟩
  | _ + 14, _, _, _, _, _, _, _ => trivial
/-- what each operation leaves, where the way told last is copied -/
def FB9 (b3 : Nat) (pa : Option Addr) (pm pc : Nat) (kc : Int) (lp : List Int) (b0 : Nat) : Nat → Value → Nat → Nat → World → Prop
  | 0, v, _, _, _ => v = .pointer (some ⟨b3, 0, none⟩)
  | 1, v, _, _, _ => v = .slice pa pm pc
  | 2, v, _, _, w => ∃ a k, v = .slice a pm k ∧ Own encI 1 3 w b0 (.slice a pm k) lp
  | 3, v, _, _, _ => v = .pointer (some ⟨b3, 1, none⟩)
  | 4, v, _, _, _ => v = .int .i64 kc
  | 5, v, _, _, w => ∃ a k, v = .agg #[.slice a pm k, .int .i64 kc] ∧ Own encI 1 3 w b0 (.slice a pm k) lp
  | _, _, _, _, _ => True
theorem fb9_stays {b3 : Nat} {pa : Option Addr} {pm pc : Nat} {kc : Int} {lp : List Int} {b0 : Nat} : ∀ (i : Nat) (v : Value) (lo hi : Nat) (w w' : World), FB9 b3 pa pm pc kc lp b0 i v lo hi w → Below w.heap.size w w' → FB9 b3 pa pm pc kc lp b0 i v lo hi w'
  | 0, _, _, _, _, _, h, _ => h
  | 1, _, _, _, _, _, h, _ => h
  | 2, _, _, _, _, _, ⟨a, k, h1, h2⟩, hb => ⟨a, k, h1, h2.stays hb⟩
  | 3, _, _, _, _, _, h, _ => h
  | 4, _, _, _, _, _, h, _ => h
  | 5, _, _, _, _, _, ⟨a, k, h1, h2⟩, hb => ⟨a, k, h1, h2.stays hb⟩
  | _ + 6, _, _, _, _, _, _, _ => trivial
set_option maxRecDepth 100000 in
set_option maxHeartbeats 4000000 in
theorem abest_any (tgN : Nat) (htg : tgN < n) (hX : AX n sb gc gp gd gh (.slice ae el ec) ov (.slice ha n hc) (.slice aw m wc) (tgN : Int) v k f lv ls (.slice ar t rc) ros s wS w) (hC : AC n sb gc gp gd gh hc m wc el ec ha aw ae h ws es wS) (ht : t = s.told.length) (ht8 : t ≤ 1000) (hpl : (lastWay s).1.length ≤ 1000)
    (hcb : s.cost tgN = FAR ∨ (0 ≤ s.cost tgN ∧ s.cost tgN ≤ 1000000000)) (hch : s.cost tgN < FAR → ∃ l, Chain s.pred tgN l ∧ l.length ≤ n ∧ ∀ x ∈ l, x < n) :
    Calls Try.prog 49 #[.pointer (some ⟨sb, 0, none⟩)] w fun e w' => ∃ av p pn c, e = .returned (.agg #[.slice av pn c, .int .i64 p.2]) ∧ pn = p.1.length ∧ ABest n tgN es s p ∧ Own encI 1 3 w' w.heap.size (.slice av pn c) p.1 ∧ Below w.heap.size w w' := by
  obtain ⟨pa, pm, pc, kc, hpm, hkc, hrow, hout⟩ := abest_out hX ht
  have hlw : lastWay s = ((lastWay s).1, kc) := by rw [← hkc]
  obtain ⟨lp, hlp⟩ : ∃ lp, lp = (lastWay s).1 := ⟨_, rfl⟩
  rw [← hlp] at hlw hpm hrow hpl
  have c0 := hX.c0
  have c1 := hX.c1
  have c3 := hX.c3
  have c6 := hX.c6
  have c7 := hX.c7
  have c12 := hX.c12
  have d0 := hX.cost.atI tgN htg
  have zs := cell_lt c0
  have zc := cell_lt d0
  simp only at zs zc
  have it : (0 : Int) ≤ (tgN : Int) ∧ (tgN : Int) < (n : Int) := by omega
  have hE := hC.er _ hX.keep
  have hP := own_row hX.pred
  have hbig := hX.big
  have hn64 := hC.hn.2
  have hel := hC.es.2.2
  obtain ⟨x, hx⟩ : ∃ x, x = s.cost tgN := ⟨_, rfl⟩
  rw [← hx] at d0 hcb hch
  have hno := hide (fun (hf : ¬ x < FAR) => (show ABest n tgN es s (lp, kc) from .inl ⟨by rw [← hx]; exact hf, hlw.symm⟩))
  have hyes := hide (fun (hf : x < FAR) (l : List Nat) (hl : Chain s.pred tgN l) => (show ABest n tgN es s (if (upWay n es l).2 < kc then upWay n es l else (lp, kc)) from .inr ⟨by rw [← hx]; exact hf, l, hl, by rw [hlw]⟩))
  have hWk := hide (fun (l : List Nat) (cst : Int) (L : Nat) (hl : Chain s.pred tgN l) (hll : l.length ≤ n) (hm : ∀ x ∈ l, x < n) (hcst : (wcost (n : Int) es (LP l.reverse)).1 = cst) (hL : l.length = L) (w' : World) (hb : Below w.heap.size w w') => (by
    have := walked_any n tgN L ae (some ⟨gp, 0, none⟩) ec n es s.pred l cst w' wS.heap.size (Nat.le_trans hbig hb.size) (hE.below hb hbig) ((hP.below hb (Nat.le_refl _)).mono hb.size) hl hn64 hll hm (by omega) hcst hL
    rw [hel.1] at this
    exact this))
  replace hx := hide hx
  replace hlp := hide hlp
  replace hlw := hide hlw
  clear hX hC hE hP hkc ht
  go_enter Try.func49, Try.ntmps49
  rcases hout with ⟨rfl, h1, h2, h3, h4⟩ | ⟨t', g, rfl, rfl, hg, q2, q3⟩
  · go_upto_region 5 with fail
    obtain ⟨w2, hw2⟩ : ∃ w2, w2 = (w.alloc (.cells #[.slice none 0 0, .int .i64 0] 51)).alloc (.cells #[.slice none 0 0, .int .i64 1099511627776] 51) := ⟨_, rfl⟩
    have hb2 : Below w.heap.size w w2 := by rw [hw2]; exact bel
    have hz2 : w2.heap.size = w.heap.size + 1 + 1 := by rw [hw2]; simp
    have e0 : w2.cell? ⟨w.heap.size, 0, none⟩ = some (.slice none 0 0) := by rw [hw2]; simp [go_sem]
    have e1 : w2.cell? ⟨w.heap.size, 1, none⟩ = some (.int .i64 0) := by rw [hw2]; simp [go_sem]
    have f0 : w2.frozen? ⟨w.heap.size, 0, none⟩ = false := by rw [hw2]; simp [go_sem]
    have f1 : w2.frozen? ⟨w.heap.size, 1, none⟩ = false := by rw [hw2]; simp [go_sem]
    have b0 : w2.cell? ⟨w.heap.size + 1, 0, none⟩ = some (.slice pa pm pc) := by rw [h1, h2, h3]; rw [hw2]; simp [go_sem]
    have b1 : w2.cell? ⟨w.heap.size + 1, 1, none⟩ = some (.int .i64 kc) := by rw [h4]; rw [hw2]; simp [go_sem]
    (try clear h1 h2 h3 h4)
    simp only [← hw2]
    replace hw2 := hide hw2
    have c0 := cu_below hb2 c0 zs
    have c1 := cu_below hb2 c1 zs
    have c3 := cu_below hb2 c3 zs
    have c6 := cu_below hb2 c6 zs
    have c7 := cu_below hb2 c7 zs
    have d0 := cu_below hb2 d0 zc
    have hrow := hrow.below hb2 (Nat.le_refl _)
    by_cases hf : x < 1099511627776
    · obtain ⟨l, hl, hll, hm⟩ := hch (by unfold FAR; omega)
      obtain ⟨cst, hcst⟩ : ∃ c, (wcost (n : Int) es (LP l.reverse)).1 = c := ⟨_, rfl⟩
      obtain ⟨Lu, hL⟩ : ∃ c, l.length = c := ⟨_, rfl⟩
      have hW := hide (hWk.out l cst Lu hl hll hm hcst hL)
      have hLn : Lu ≤ 1000 := by omega
      have hA := hyes.out (by unfold FAR; omega) l hl
      have hup : upWay n es l = (LP l.reverse, cst) := by unfold upWay; rw [hcst]
      rw [hup] at hA
      simp only at hA
      replace hA := hide hA
      have hpl2 : (LP l.reverse).length = Lu := by rw [lp_len, List.length_reverse, hL]
      obtain ⟨pu, hpu⟩ : ∃ pu, pu = LP l.reverse := ⟨_, rfl⟩
      rw [← hpu] at hA hpl2
      rw [← hpu] at hW
      replace hpu := hide hpu
      replace hcst := hide hcst
      replace hL := hide hL
      clear hyes hno hch hWk hup hl hll hm
      go_quiet (fail)
      have hdr : Below w2.heap.size w2 (w2.drewN nq) := up_drewN (Below.refl _ _)
      have hb3 : Below w.heap.size w (w2.drewN nq) := up_drewN hb2
      have hz3 : (w2.drewN nq).heap.size = w.heap.size + 1 + 1 := hz2
      have c0 := cu_below hdr c0 (by simp; omega)
      have c1 := cu_below hdr c1 (by simp; omega)
      have c3 := cu_below hdr c3 (by simp; omega)
      have c7 := cu_below hdr c7 (by simp; omega)
      have b0 := cu_below hdr b0 (by simp; omega)
      have b1 := cu_below hdr b1 (by simp; omega)
      have e0 := cu_below hdr e0 (by simp; omega)
      have e1 := cu_below hdr e1 (by simp; omega)
      have f0 := fu_below hdr f0 (by simp; omega)
      have f1 := fu_below hdr f1 (by simp; omega)
      have hrow := hrow.below hdr (by omega)
      generalize w2.drewN nq = w3 at hb3 hz3 c0 c1 c3 c7 b0 b1 e0 e1 f0 f1 hrow ⊢
      have hy0 : w.heap.size < w3.heap.size := by omega
      have hy1 : w.heap.size + 1 < w3.heap.size := by omega
      have hy2 : sb < w3.heap.size := by omega
      clear hdr d0 hb2 hz2 c6
      go_wp2
      have key1 := hide (show ∀ w', Below w3.heap.size w3 w' → (Below w3.heap.size w3 w' ∧ w'.cell? ⟨sb, 0, none⟩ = some (.int .i64 (n : Int)) ∧ w'.cell? ⟨sb, 1, none⟩ = some (.slice ae el ec) ∧ w'.cell? ⟨sb, 3, none⟩ = some (.int .i64 (tgN : Int)) ∧ w'.cell? ⟨sb, 7, none⟩ = some (.slice (some ⟨gp, 0, none⟩) n n) ∧ w3.heap.size ≤ w'.heap.size) from fun w' hb => ⟨hb, cu_below hb c0 hy2, cu_below hb c1 hy2, cu_below hb c3 hy2, cu_below hb c7 hy2, hb.size⟩)
      clear c0 c1 c3 c7
      go_upto_region 6 with fail
      refine wp_region_inv 14 (by kernel_rfl) [some 34, some 35, some 36, some 37, some 38, some 39, some 40, some 41, some 42, some 43, some 44, some 45, some 46, some 5] (FBw sb gp n tgN (.slice ae el ec) Lu pu cst w3.heap.size) (fun w' => Below w3.heap.size w3 w' ∧ w'.cell? ⟨sb, 0, none⟩ = some (.int .i64 (n : Int)) ∧ w'.cell? ⟨sb, 1, none⟩ = some (.slice ae el ec) ∧ w'.cell? ⟨sb, 3, none⟩ = some (.int .i64 (tgN : Int)) ∧ w'.cell? ⟨sb, 7, none⟩ = some (.slice (some ⟨gp, 0, none⟩) n n) ∧ w3.heap.size ≤ w'.heap.size) (fun w w' => Below w.heap.size w w') (by kernel_rfl) (by kernel_rfl) (by kernel_rfl) (by kernel_rfl) (fbw_stays) (fun _ _ h => h.size) (key1.out _ (below_drew _)) ?steps ?hend
      case steps =>
        refine ⟨?_, ?_, ?_, ?_, ?_, ?_, ?_, ?_, ?_, ?_, ?_, ?_, ?_, ?_, trivial⟩
        · intro X L H wI hS hd K hK
          have hS0 := hide hS
          (try dsimp only at hS)
          simp only [putAll, Act.put, List.setIfInBounds_toArray, List.set_cons_zero, List.set_cons_succ]
          go_simp
          refine hK _ _ wI.heap.size wI.heap.size _ ?_ (Nat.le_refl _) (Nat.le_refl _) (Nat.le_refl _) (Below.refl _ _) hS0.out rfl
          simp only [putAll, Act.put, List.setIfInBounds_toArray, List.set_cons_zero, List.set_cons_succ]
        · intro X L H wI hS hd K hK
          have h0 : X 0 = _ := hd 0 (by kernel_rfl)
          have hS0 := hide hS
          (try dsimp only at hS)
          simp only [putAll, Act.put, List.setIfInBounds_toArray, List.set_cons_zero, List.set_cons_succ]
          go_simp
          refine hK _ _ wI.heap.size wI.heap.size _ ?_ (Nat.le_refl _) (Nat.le_refl _) (Nat.le_refl _) (Below.refl _ _) hS0.out rfl
          simp only [putAll, Act.put, List.setIfInBounds_toArray, List.set_cons_zero, List.set_cons_succ, h0]
        · intro X L H wI hS hd K hK
          have h1 : X 1 = _ := hd 1 (by kernel_rfl)
          have hS0 := hide hS
          (try dsimp only at hS)
          simp only [putAll, Act.put, List.setIfInBounds_toArray, List.set_cons_zero, List.set_cons_succ]
          go_simp
          refine hK _ _ wI.heap.size wI.heap.size _ ?_ (Nat.le_refl _) (Nat.le_refl _) (Nat.le_refl _) (Below.refl _ _) hS0.out rfl
          simp only [putAll, Act.put, List.setIfInBounds_toArray, List.set_cons_zero, List.set_cons_succ, h1]
        · intro X L H wI hS hd K hK
          have h2 : X 2 = _ := hd 2 (by kernel_rfl)
          have hS0 := hide hS
          (try dsimp only at hS)
          simp only [putAll, Act.put, List.setIfInBounds_toArray, List.set_cons_zero, List.set_cons_succ]
          go_simp
          refine hK _ _ wI.heap.size wI.heap.size _ ?_ (Nat.le_refl _) (Nat.le_refl _) (Nat.le_refl _) (Below.refl _ _) hS0.out rfl
          simp only [putAll, Act.put, List.setIfInBounds_toArray, List.set_cons_zero, List.set_cons_succ, h2]
        · intro X L H wI hS hd K hK
          have hS0 := hide hS
          (try dsimp only at hS)
          simp only [putAll, Act.put, List.setIfInBounds_toArray, List.set_cons_zero, List.set_cons_succ]
          go_simp
          refine hK _ _ wI.heap.size wI.heap.size _ ?_ (Nat.le_refl _) (Nat.le_refl _) (Nat.le_refl _) (Below.refl _ _) hS0.out rfl
          simp only [putAll, Act.put, List.setIfInBounds_toArray, List.set_cons_zero, List.set_cons_succ]
        · intro X L H wI hS hd K hK
          have h4 : X 4 = _ := hd 4 (by kernel_rfl)
          have hS0 := hide hS
          (try dsimp only at hS)
          simp only [putAll, Act.put, List.setIfInBounds_toArray, List.set_cons_zero, List.set_cons_succ]
          go_simp
          refine hK _ _ wI.heap.size wI.heap.size _ ?_ (Nat.le_refl _) (Nat.le_refl _) (Nat.le_refl _) (Below.refl _ _) hS0.out rfl
          simp only [putAll, Act.put, List.setIfInBounds_toArray, List.set_cons_zero, List.set_cons_succ, h4]
        · intro X L H wI hS hd K hK
          have h5 : X 5 = _ := hd 5 (by kernel_rfl)
          have hS0 := hide hS
          (try dsimp only at hS)
          simp only [putAll, Act.put, List.setIfInBounds_toArray, List.set_cons_zero, List.set_cons_succ]
          go_simp
          refine hK _ _ wI.heap.size wI.heap.size _ ?_ (Nat.le_refl _) (Nat.le_refl _) (Nat.le_refl _) (Below.refl _ _) hS0.out rfl
          simp only [putAll, Act.put, List.setIfInBounds_toArray, List.set_cons_zero, List.set_cons_succ, h5]
        · intro X L H wI hS hd K hK
          have h6 : X 6 = _ := hd 6 (by kernel_rfl)
          have hS0 := hide hS
          (try dsimp only at hS)
          simp only [putAll, Act.put, List.setIfInBounds_toArray, List.set_cons_zero, List.set_cons_succ]
          go_simp
          refine hK _ _ wI.heap.size wI.heap.size _ ?_ (Nat.le_refl _) (Nat.le_refl _) (Nat.le_refl _) (Below.refl _ _) hS0.out rfl
          simp only [putAll, Act.put, List.setIfInBounds_toArray, List.set_cons_zero, List.set_cons_succ, h6]
        · intro X L H wI hS hd K hK
          have hS0 := hide hS
          (try dsimp only at hS)
          simp only [putAll, Act.put, List.setIfInBounds_toArray, List.set_cons_zero, List.set_cons_succ]
          go_simp
          refine hK _ _ wI.heap.size wI.heap.size _ ?_ (Nat.le_refl _) (Nat.le_refl _) (Nat.le_refl _) (Below.refl _ _) hS0.out rfl
          simp only [putAll, Act.put, List.setIfInBounds_toArray, List.set_cons_zero, List.set_cons_succ]
        · intro X L H wI hS hd K hK
          have h8 : X 8 = _ := hd 8 (by kernel_rfl)
          have hS0 := hide hS
          (try dsimp only at hS)
          simp only [putAll, Act.put, List.setIfInBounds_toArray, List.set_cons_zero, List.set_cons_succ]
          go_simp
          refine hK _ _ wI.heap.size wI.heap.size _ ?_ (Nat.le_refl _) (Nat.le_refl _) (Nat.le_refl _) (Below.refl _ _) hS0.out rfl
          simp only [putAll, Act.put, List.setIfInBounds_toArray, List.set_cons_zero, List.set_cons_succ, h8]
        · intro X L H wI hS hd K hK
          have h9 : X 9 = _ := hd 9 (by kernel_rfl)
          have hS0 := hide hS
          (try dsimp only at hS)
          simp only [putAll, Act.put, List.setIfInBounds_toArray, List.set_cons_zero, List.set_cons_succ]
          go_simp
          refine hK _ _ wI.heap.size wI.heap.size _ ?_ (Nat.le_refl _) (Nat.le_refl _) (Nat.le_refl _) (Below.refl _ _) hS0.out rfl
          simp only [putAll, Act.put, List.setIfInBounds_toArray, List.set_cons_zero, List.set_cons_succ, h9]
        · intro X L H wI hS hd K hK
          have h10 : X 10 = _ := hd 10 (by kernel_rfl)
          have hS0 := hide hS
          (try dsimp only at hS)
          simp only [putAll, Act.put, List.setIfInBounds_toArray, List.set_cons_zero, List.set_cons_succ]
          go_simp
          refine hK _ _ wI.heap.size wI.heap.size _ ?_ (Nat.le_refl _) (Nat.le_refl _) (Nat.le_refl _) (Below.refl _ _) hS0.out rfl
          simp only [putAll, Act.put, List.setIfInBounds_toArray, List.set_cons_zero, List.set_cons_succ, h10]
        · intro X L H wI hS hd K hK
          (try have h3 : X 3 = _ := hd 3 (by kernel_rfl))
          (try have h7 : X 7 = _ := hd 7 (by kernel_rfl))
          (try have h11 : X 11 = _ := hd 11 (by kernel_rfl))
          have hS0 := hide hS
          (try dsimp only at hS)
          simp only [putAll, Act.put, List.setIfInBounds_toArray, List.set_cons_zero, List.set_cons_succ]
          (go_simp; go_at_call 57; refine (hW.out _ (hb3.trans (hS0.out.1.mono (by omega)))).mono ?_; rintro e wB ⟨av, ak, rfl, oB, hbB⟩; exact hK _ _ wI.heap.size wB.heap.size _ (by simp only [putAll, Act.put, List.setIfInBounds_toArray, List.set_cons_zero, List.set_cons_succ, h3, h7, h11]) (Nat.le_refl _) hbB.size (Nat.le_refl _) hbB (key1.out _ (hS0.out.1.trans (hbB.mono hS0.out.2.2.2.2.2))) ⟨av, ak, rfl, oB, fun j hj => (oB.block_lt j hj).2, hS0.out.2.2.2.2.2⟩)
        · intro X L H wI hS hd K hK
          have hS0 := hide hS
          (try dsimp only at hS)
          simp only [putAll, Act.put, List.setIfInBounds_toArray, List.set_cons_zero, List.set_cons_succ]
          (go_simp; exact hK _ (.pointer (some ⟨wI.heap.size, 0, none⟩)) wI.heap.size (wI.heap.size + 1) _ (by simp only [putAll, Act.put, List.setIfInBounds_toArray, List.set_cons_zero, List.set_cons_succ]) (Nat.le_refl _) (by omega) (by simp) ((Below.refl _ _).alloc (Nat.le_refl _) _) (key1.out _ (hS0.out.1.alloc hS0.out.2.2.2.2.2 _)) ⟨rfl, hS0.out.2.2.2.2.2, by omega, by simp [go_sem], by simp [go_sem], by simp [go_sem], by simp [go_sem]⟩)
      case hend =>
        intro X L H wI hS hF hP
        (obtain ⟨av, ak, f12, o12, l12, b12⟩ := (hF 12 (by omega)).1; obtain ⟨f13, b13, l13, n0, n1, g0, g1⟩ := (hF 13 (by omega)).1; have p12 := hP 12 13 (by omega) (by omega) (by omega); have hbI := hS.1; clear hS hF hP; replace o12 := hide o12; replace l12 := hide l12; replace hbI := hide hbI; have zI := cell_lt n0; simp only at zI)
        simp only [putAll, Act.put, List.setIfInBounds_toArray, List.set_cons_zero, List.set_cons_succ, f12, f13]
        change wpAny _ _ _ _ (0 + 1) _ _ _
        refine wpAny_ready (rs := [14]) (by kernel_rfl) (by simp) (AllReady.cons rfl (fun K hK => ?_) AllReady.nil)
        go_simp
        refine hK _ _ ?_
        clear hK K
        refine wpAny_done (by kernel_rfl) ?_ _
        obtain ⟨bt, hbt⟩ : ∃ b, b = L 13 := ⟨_, rfl⟩
        simp only [← hbt] at b13 l13 n0 n1 g0 g1 p12 zI ⊢
        have hne : (Value.slice av Lu ak).ownBlock ≠ some bt := fun e => by have h1 := (o12.out.block_lt _ e).1; have h2 := l12.out _ e; omega
        obtain ⟨w8, hw8⟩ : ∃ w8, w8 = (wI.setCell ⟨bt, 0, none⟩ (.slice av Lu ak)).setCell ⟨bt, 1, none⟩ (.int .i64 cst) := ⟨_, rfl⟩
        have hb6 : Below w3.heap.size w3 w8 := by rw [hw8]; exact (hbI.out.setCell b13 _).setCell b13 _
        have u0 : w8.cell? ⟨bt, 0, none⟩ = some (.slice av Lu ak) := by rw [hw8]; simp [go_sem, n0, n1]
        have u1 : w8.cell? ⟨bt, 1, none⟩ = some (.int .i64 cst) := by rw [hw8]; simp [go_sem, n0, n1]
        have o8 := hide (show Own encI 1 3 w8 (L 12) (.slice av Lu ak) pu by rw [hw8]; exact (o12.out.elsewhere hne _).elsewhere hne _)
        simp only [← hw8]
        replace hw8 := hide hw8
        replace hbt := hide hbt
        have hrow := hrow.below hb6 (by omega)
        have b0 := cu_below hb6 b0 (by simp; omega)
        have b1 := cu_below hb6 b1 (by simp; omega)
        have e0 := cu_below hb6 e0 (by simp; omega)
        have e1 := cu_below hb6 e1 (by simp; omega)
        have f0 := fu_below hb6 f0 (by simp; omega)
        have f1 := fu_below hb6 f1 (by simp; omega)
        have hb8 := hb3.trans (hb6.mono (by omega))
        have hz8 : w3.heap.size ≤ w8.heap.size := hb6.size
        have hy0 : w.heap.size < w8.heap.size := by omega
        have hy1 : w.heap.size + 1 < w8.heap.size := by omega
        clear n0 n1 g0 g1 p12 o12 l12 hbI hb6 hne hb3 key1 hW zI
        by_cases hlt : cst < kc
        · have hA2 := hA.out
          rw [if_pos hlt] at hA2
          replace hA2 := hide hA2
          clear hA
          go_wp2
          refine bodyPost_ret (v := .agg #[.slice av Lu ak, .int .i64 cst]) (by simp [results, Try.results49, go_sem, e0, e1, f0, f1]) rfl ?_
          refine ⟨av, (pu, cst), Lu, ak, rfl, hpl2.symm, hA2.out, ?_, ?_⟩
          · exact ((o8.out.base_le (show w.heap.size + 1 ≤ _ by omega)).setCell (a := ⟨w.heap.size, 0, none⟩) (by simp) _).setCell (a := ⟨w.heap.size, 1, none⟩) (by simp) _ |>.base_le (by omega)
          · exact (hb8.setCell (by simp) _).setCell (by simp) _
        · have hA2 := hA.out
          rw [if_neg hlt] at hA2
          have hAB := hide hA2
          clear hA hA2
          go_wp2
          have key2 := hide (show ∀ w', Below w8.heap.size w8 w' → (Below w8.heap.size w8 w' ∧ w'.cell? ⟨w.heap.size + 1, 0, none⟩ = some (.slice pa pm pc) ∧ w'.cell? ⟨w.heap.size + 1, 1, none⟩ = some (.int .i64 kc) ∧ w8.heap.size ≤ w'.heap.size) from fun w' hb => ⟨hb, cu_below hb b0 hy1, cu_below hb b1 hy1, hb.size⟩)
          clear b0 b1
          go_upto_region 9 with fail
          refine wp_region_inv 6 (by kernel_rfl) [some 53, some 54, some 55, some 56, some 57, some 58] (FB9 (w.heap.size + 1) pa pm pc kc lp w8.heap.size) (fun w' => Below w8.heap.size w8 w' ∧ w'.cell? ⟨w.heap.size + 1, 0, none⟩ = some (.slice pa pm pc) ∧ w'.cell? ⟨w.heap.size + 1, 1, none⟩ = some (.int .i64 kc) ∧ w8.heap.size ≤ w'.heap.size) (fun w w' => Below w.heap.size w w') (by kernel_rfl) (by kernel_rfl) (by kernel_rfl) (by kernel_rfl) (fb9_stays) (fun _ _ h => h.size) (key2.out _ (below_drew _)) ?steps ?hend
          case steps =>
            refine ⟨?_, ?_, ?_, ?_, ?_, ?_, trivial⟩
            · intro X L H wI hS hd K hK
              have hS0 := hide hS
              (try dsimp only at hS)
              simp only [putAll, Act.put, List.setIfInBounds_toArray, List.set_cons_zero, List.set_cons_succ]
              go_simp
              refine hK _ _ wI.heap.size wI.heap.size _ ?_ (Nat.le_refl _) (Nat.le_refl _) (Nat.le_refl _) (Below.refl _ _) hS0.out rfl
              simp only [putAll, Act.put, List.setIfInBounds_toArray, List.set_cons_zero, List.set_cons_succ]
            · intro X L H wI hS hd K hK
              have h0 : X 0 = _ := hd 0 (by kernel_rfl)
              have hS0 := hide hS
              (try dsimp only at hS)
              simp only [putAll, Act.put, List.setIfInBounds_toArray, List.set_cons_zero, List.set_cons_succ]
              go_simp
              refine hK _ _ wI.heap.size wI.heap.size _ ?_ (Nat.le_refl _) (Nat.le_refl _) (Nat.le_refl _) (Below.refl _ _) hS0.out rfl
              simp only [putAll, Act.put, List.setIfInBounds_toArray, List.set_cons_zero, List.set_cons_succ, h0]
            · intro X L H wI hS hd K hK
              (try have h1 : X 1 = _ := hd 1 (by kernel_rfl))
              have hS0 := hide hS
              (try dsimp only at hS)
              simp only [putAll, Act.put, List.setIfInBounds_toArray, List.set_cons_zero, List.set_cons_succ]
              (refine wp_pushAll (enc := encI) (v := .slice none 0 0) (xs := []) (base := wI.heap.size) (.const (.slice none 0 0)) (.tmp 54) 22 rfl _ 8 Try.underlying22 info_int rfl (by omega) lenI oneI 0 rfl rfl (Own.nil _ _) w.heap.size pa pm pc lp hpm (by simp [Act.eval, h1]) (hrow.below hS0.out.1 (by omega)) (by omega) (by unfold maxLen; omega) (Nat.le_refl _) ?_; intro aq kq wq oq hbq _; simp only [List.nil_append, Nat.zero_add] at oq ⊢; exact hK _ _ wI.heap.size wq.heap.size _ (by simp only [putAll, Act.put, List.setIfInBounds_toArray, List.set_cons_zero, List.set_cons_succ, h1]) (Nat.le_refl _) hbq.size (Nat.le_refl _) hbq (key2.out _ (hS0.out.1.trans (hbq.mono hS0.out.2.2.2))) ⟨aq, kq, rfl, oq.base_le hS0.out.2.2.2⟩)
            · intro X L H wI hS hd K hK
              have hS0 := hide hS
              (try dsimp only at hS)
              simp only [putAll, Act.put, List.setIfInBounds_toArray, List.set_cons_zero, List.set_cons_succ]
              go_simp
              refine hK _ _ wI.heap.size wI.heap.size _ ?_ (Nat.le_refl _) (Nat.le_refl _) (Nat.le_refl _) (Below.refl _ _) hS0.out rfl
              simp only [putAll, Act.put, List.setIfInBounds_toArray, List.set_cons_zero, List.set_cons_succ]
            · intro X L H wI hS hd K hK
              have h3 : X 3 = _ := hd 3 (by kernel_rfl)
              have hS0 := hide hS
              (try dsimp only at hS)
              simp only [putAll, Act.put, List.setIfInBounds_toArray, List.set_cons_zero, List.set_cons_succ]
              go_simp
              refine hK _ _ wI.heap.size wI.heap.size _ ?_ (Nat.le_refl _) (Nat.le_refl _) (Nat.le_refl _) (Below.refl _ _) hS0.out rfl
              simp only [putAll, Act.put, List.setIfInBounds_toArray, List.set_cons_zero, List.set_cons_succ, h3]
            · intro X L H wI hS hd K hK
              (try have h2 : X 2 = _ := hd 2 (by kernel_rfl))
              (try have h4 : X 4 = _ := hd 4 (by kernel_rfl))
              have hS0 := hide hS
              (try dsimp only at hS)
              simp only [putAll, Act.put, List.setIfInBounds_toArray, List.set_cons_zero, List.set_cons_succ]
              (obtain ⟨aq, kq, h2', o2⟩ := hd 2 (by kernel_rfl); go_simp; refine hK _ _ wI.heap.size wI.heap.size _ ?_ (Nat.le_refl _) (Nat.le_refl _) (Nat.le_refl _) (Below.refl _ _) hS0.out ⟨aq, kq, rfl, o2⟩; simp only [putAll, Act.put, List.setIfInBounds_toArray, List.set_cons_zero, List.set_cons_succ, h2', h4])
          case hend =>
            intro X L H wI hS hF hP
            (obtain ⟨aq, kq, f5, o5⟩ := (hF 5 (by omega)).1; have hbI := hS.1; clear hS hF hP; replace o5 := hide o5; have e0 := cu_below hbI e0 hy0; have e1 := cu_below hbI e1 hy0; have f0 := fu_below hbI f0 hy0; have f1 := fu_below hbI f1 hy0; replace hbI := hide hbI)
            simp only [putAll, Act.put, List.setIfInBounds_toArray, List.set_cons_zero, List.set_cons_succ, f5]
            change wpAny _ _ _ _ (0 + 1) _ _ _
            refine wpAny_ready (rs := [6]) (by kernel_rfl) (by simp) (AllReady.cons rfl (fun K hK => ?_) AllReady.nil)
            go_simp
            refine hK _ _ ?_
            clear hK K
            refine wpAny_done (by kernel_rfl) ?_ _
            go_wp2
            refine bodyPost_ret (v := .agg #[.slice aq pm kq, .int .i64 kc]) (by simp [results, Try.results49, go_sem, e0, e1, f0, f1]) rfl ?_
            refine ⟨aq, (lp, kc), pm, kq, rfl, hpm.symm, hAB.out, ?_, ?_⟩
            · exact ((o5.out.setCell (a := ⟨w.heap.size, 0, none⟩) hy0 _).setCell (a := ⟨w.heap.size, 1, none⟩) hy0 _).base_le (by omega)
            · exact ((hb8.trans (hbI.out.mono (by omega))).setCell (by simp) _).setCell (by simp) _
    · have hAB := hide (hno.out (by unfold FAR; omega))
      clear hyes hno hch hWk
      go_quiet (fail)
      have hdr : Below w2.heap.size w2 (w2.drewN nq) := up_drewN (Below.refl _ _)
      have hb3 : Below w.heap.size w (w2.drewN nq) := up_drewN hb2
      have hz3 : (w2.drewN nq).heap.size = w.heap.size + 1 + 1 := hz2
      have b0 := cu_below hdr b0 (by simp; omega)
      have b1 := cu_below hdr b1 (by simp; omega)
      have e0 := cu_below hdr e0 (by simp; omega)
      have e1 := cu_below hdr e1 (by simp; omega)
      have f0 := fu_below hdr f0 (by simp; omega)
      have f1 := fu_below hdr f1 (by simp; omega)
      have hrow := hrow.below hdr (by omega)
      have hb8 := hb3
      generalize w2.drewN nq = w8 at hb8 hb3 hz3 b0 b1 e0 e1 f0 f1 hrow ⊢
      have hy0 : w.heap.size < w8.heap.size := by omega
      have hy1 : w.heap.size + 1 < w8.heap.size := by omega
      clear hdr d0 hb2 hz2 c0 c1 c3 c6 c7
      go_wp2
      have key2 := hide (show ∀ w', Below w8.heap.size w8 w' → (Below w8.heap.size w8 w' ∧ w'.cell? ⟨w.heap.size + 1, 0, none⟩ = some (.slice pa pm pc) ∧ w'.cell? ⟨w.heap.size + 1, 1, none⟩ = some (.int .i64 kc) ∧ w8.heap.size ≤ w'.heap.size) from fun w' hb => ⟨hb, cu_below hb b0 hy1, cu_below hb b1 hy1, hb.size⟩)
      clear b0 b1
      go_upto_region 9 with fail
      refine wp_region_inv 6 (by kernel_rfl) [some 53, some 54, some 55, some 56, some 57, some 58] (FB9 (w.heap.size + 1) pa pm pc kc lp w8.heap.size) (fun w' => Below w8.heap.size w8 w' ∧ w'.cell? ⟨w.heap.size + 1, 0, none⟩ = some (.slice pa pm pc) ∧ w'.cell? ⟨w.heap.size + 1, 1, none⟩ = some (.int .i64 kc) ∧ w8.heap.size ≤ w'.heap.size) (fun w w' => Below w.heap.size w w') (by kernel_rfl) (by kernel_rfl) (by kernel_rfl) (by kernel_rfl) (fb9_stays) (fun _ _ h => h.size) (key2.out _ (below_drew _)) ?steps ?hend
      case steps =>
        refine ⟨?_, ?_, ?_, ?_, ?_, ?_, trivial⟩
        · intro X L H wI hS hd K hK
          have hS0 := hide hS
          (try dsimp only at hS)
          simp only [putAll, Act.put, List.setIfInBounds_toArray, List.set_cons_zero, List.set_cons_succ]
          go_simp
          refine hK _ _ wI.heap.size wI.heap.size _ ?_ (Nat.le_refl _) (Nat.le_refl _) (Nat.le_refl _) (Below.refl _ _) hS0.out rfl
          simp only [putAll, Act.put, List.setIfInBounds_toArray, List.set_cons_zero, List.set_cons_succ]
        · intro X L H wI hS hd K hK
          have h0 : X 0 = _ := hd 0 (by kernel_rfl)
          have hS0 := hide hS
          (try dsimp only at hS)
          simp only [putAll, Act.put, List.setIfInBounds_toArray, List.set_cons_zero, List.set_cons_succ]
          go_simp
          refine hK _ _ wI.heap.size wI.heap.size _ ?_ (Nat.le_refl _) (Nat.le_refl _) (Nat.le_refl _) (Below.refl _ _) hS0.out rfl
          simp only [putAll, Act.put, List.setIfInBounds_toArray, List.set_cons_zero, List.set_cons_succ, h0]
        · intro X L H wI hS hd K hK
          (try have h1 : X 1 = _ := hd 1 (by kernel_rfl))
          have hS0 := hide hS
          (try dsimp only at hS)
          simp only [putAll, Act.put, List.setIfInBounds_toArray, List.set_cons_zero, List.set_cons_succ]
          (refine wp_pushAll (enc := encI) (v := .slice none 0 0) (xs := []) (base := wI.heap.size) (.const (.slice none 0 0)) (.tmp 54) 22 rfl _ 8 Try.underlying22 info_int rfl (by omega) lenI oneI 0 rfl rfl (Own.nil _ _) w.heap.size pa pm pc lp hpm (by simp [Act.eval, h1]) (hrow.below hS0.out.1 (by omega)) (by omega) (by unfold maxLen; omega) (Nat.le_refl _) ?_; intro aq kq wq oq hbq _; simp only [List.nil_append, Nat.zero_add] at oq ⊢; exact hK _ _ wI.heap.size wq.heap.size _ (by simp only [putAll, Act.put, List.setIfInBounds_toArray, List.set_cons_zero, List.set_cons_succ, h1]) (Nat.le_refl _) hbq.size (Nat.le_refl _) hbq (key2.out _ (hS0.out.1.trans (hbq.mono hS0.out.2.2.2))) ⟨aq, kq, rfl, oq.base_le hS0.out.2.2.2⟩)
        · intro X L H wI hS hd K hK
          have hS0 := hide hS
          (try dsimp only at hS)
          simp only [putAll, Act.put, List.setIfInBounds_toArray, List.set_cons_zero, List.set_cons_succ]
          go_simp
          refine hK _ _ wI.heap.size wI.heap.size _ ?_ (Nat.le_refl _) (Nat.le_refl _) (Nat.le_refl _) (Below.refl _ _) hS0.out rfl
          simp only [putAll, Act.put, List.setIfInBounds_toArray, List.set_cons_zero, List.set_cons_succ]
        · intro X L H wI hS hd K hK
          have h3 : X 3 = _ := hd 3 (by kernel_rfl)
          have hS0 := hide hS
          (try dsimp only at hS)
          simp only [putAll, Act.put, List.setIfInBounds_toArray, List.set_cons_zero, List.set_cons_succ]
          go_simp
          refine hK _ _ wI.heap.size wI.heap.size _ ?_ (Nat.le_refl _) (Nat.le_refl _) (Nat.le_refl _) (Below.refl _ _) hS0.out rfl
          simp only [putAll, Act.put, List.setIfInBounds_toArray, List.set_cons_zero, List.set_cons_succ, h3]
        · intro X L H wI hS hd K hK
          (try have h2 : X 2 = _ := hd 2 (by kernel_rfl))
          (try have h4 : X 4 = _ := hd 4 (by kernel_rfl))
          have hS0 := hide hS
          (try dsimp only at hS)
          simp only [putAll, Act.put, List.setIfInBounds_toArray, List.set_cons_zero, List.set_cons_succ]
          (obtain ⟨aq, kq, h2', o2⟩ := hd 2 (by kernel_rfl); go_simp; refine hK _ _ wI.heap.size wI.heap.size _ ?_ (Nat.le_refl _) (Nat.le_refl _) (Nat.le_refl _) (Below.refl _ _) hS0.out ⟨aq, kq, rfl, o2⟩; simp only [putAll, Act.put, List.setIfInBounds_toArray, List.set_cons_zero, List.set_cons_succ, h2', h4])
      case hend =>
        intro X L H wI hS hF hP
        (obtain ⟨aq, kq, f5, o5⟩ := (hF 5 (by omega)).1; have hbI := hS.1; clear hS hF hP; replace o5 := hide o5; have e0 := cu_below hbI e0 hy0; have e1 := cu_below hbI e1 hy0; have f0 := fu_below hbI f0 hy0; have f1 := fu_below hbI f1 hy0; replace hbI := hide hbI)
        simp only [putAll, Act.put, List.setIfInBounds_toArray, List.set_cons_zero, List.set_cons_succ, f5]
        change wpAny _ _ _ _ (0 + 1) _ _ _
        refine wpAny_ready (rs := [6]) (by kernel_rfl) (by simp) (AllReady.cons rfl (fun K hK => ?_) AllReady.nil)
        go_simp
        refine hK _ _ ?_
        clear hK K
        refine wpAny_done (by kernel_rfl) ?_ _
        go_wp2
        refine bodyPost_ret (v := .agg #[.slice aq pm kq, .int .i64 kc]) (by simp [results, Try.results49, go_sem, e0, e1, f0, f1]) rfl ?_
        refine ⟨aq, (lp, kc), pm, kq, rfl, hpm.symm, hAB.out, ?_, ?_⟩
        · exact ((o5.out.setCell (a := ⟨w.heap.size, 0, none⟩) hy0 _).setCell (a := ⟨w.heap.size, 1, none⟩) hy0 _).base_le (by omega)
        · exact ((hb8.trans (hbI.out.mono (by omega))).setCell (by simp) _).setCell (by simp) _
  · have hw2 : IntKind.i64.wrap ((t' : Int)) = (t' : Int) := IntWalk.i64_in _ (by omega)
    have hw3 : IntKind.i64.wrap (((t' + 1 : Nat) : Int) - 1) = (t' : Int) := by rw [show ((t' + 1 : Nat) : Int) - 1 = (t' : Int) by omega]; exact hw2
    have it2 : (0 : Int) ≤ (t' : Int) ∧ (t' : Int) < ((t' + 1 : Nat) : Int) := by omega
    go_upto_region 5 with fail
    clear hw2 hw3 it2
    obtain ⟨w2, hw2⟩ : ∃ w2, w2 = (w.alloc (.cells #[.slice none 0 0, .int .i64 0] 51)).alloc (.cells #[.slice pa pm pc, .int .i64 kc] 51) := ⟨_, rfl⟩
    have hb2 : Below w.heap.size w w2 := by rw [hw2]; exact bel
    have hz2 : w2.heap.size = w.heap.size + 1 + 1 := by rw [hw2]; simp
    have e0 : w2.cell? ⟨w.heap.size, 0, none⟩ = some (.slice none 0 0) := by rw [hw2]; simp [go_sem]
    have e1 : w2.cell? ⟨w.heap.size, 1, none⟩ = some (.int .i64 0) := by rw [hw2]; simp [go_sem]
    have f0 : w2.frozen? ⟨w.heap.size, 0, none⟩ = false := by rw [hw2]; simp [go_sem]
    have f1 : w2.frozen? ⟨w.heap.size, 1, none⟩ = false := by rw [hw2]; simp [go_sem]
    have b0 : w2.cell? ⟨w.heap.size + 1, 0, none⟩ = some (.slice pa pm pc) := by rw [hw2]; simp [go_sem]
    have b1 : w2.cell? ⟨w.heap.size + 1, 1, none⟩ = some (.int .i64 kc) := by rw [hw2]; simp [go_sem]
    (try clear h1 h2 h3 h4)
    simp only [← hw2]
    replace hw2 := hide hw2
    have c0 := cu_below hb2 c0 zs
    have c1 := cu_below hb2 c1 zs
    have c3 := cu_below hb2 c3 zs
    have c6 := cu_below hb2 c6 zs
    have c7 := cu_below hb2 c7 zs
    have d0 := cu_below hb2 d0 zc
    have hrow := hrow.below hb2 (Nat.le_refl _)
    by_cases hf : x < 1099511627776
    · obtain ⟨l, hl, hll, hm⟩ := hch (by unfold FAR; omega)
      obtain ⟨cst, hcst⟩ : ∃ c, (wcost (n : Int) es (LP l.reverse)).1 = c := ⟨_, rfl⟩
      obtain ⟨Lu, hL⟩ : ∃ c, l.length = c := ⟨_, rfl⟩
      have hW := hide (hWk.out l cst Lu hl hll hm hcst hL)
      have hLn : Lu ≤ 1000 := by omega
      have hA := hyes.out (by unfold FAR; omega) l hl
      have hup : upWay n es l = (LP l.reverse, cst) := by unfold upWay; rw [hcst]
      rw [hup] at hA
      simp only at hA
      replace hA := hide hA
      have hpl2 : (LP l.reverse).length = Lu := by rw [lp_len, List.length_reverse, hL]
      obtain ⟨pu, hpu⟩ : ∃ pu, pu = LP l.reverse := ⟨_, rfl⟩
      rw [← hpu] at hA hpl2
      rw [← hpu] at hW
      replace hpu := hide hpu
      replace hcst := hide hcst
      replace hL := hide hL
      clear hyes hno hch hWk hup hl hll hm
      go_quiet (fail)
      have hdr : Below w2.heap.size w2 (w2.drewN nq) := up_drewN (Below.refl _ _)
      have hb3 : Below w.heap.size w (w2.drewN nq) := up_drewN hb2
      have hz3 : (w2.drewN nq).heap.size = w.heap.size + 1 + 1 := hz2
      have c0 := cu_below hdr c0 (by simp; omega)
      have c1 := cu_below hdr c1 (by simp; omega)
      have c3 := cu_below hdr c3 (by simp; omega)
      have c7 := cu_below hdr c7 (by simp; omega)
      have b0 := cu_below hdr b0 (by simp; omega)
      have b1 := cu_below hdr b1 (by simp; omega)
      have e0 := cu_below hdr e0 (by simp; omega)
      have e1 := cu_below hdr e1 (by simp; omega)
      have f0 := fu_below hdr f0 (by simp; omega)
      have f1 := fu_below hdr f1 (by simp; omega)
      have hrow := hrow.below hdr (by omega)
      generalize w2.drewN nq = w3 at hb3 hz3 c0 c1 c3 c7 b0 b1 e0 e1 f0 f1 hrow ⊢
      have hy0 : w.heap.size < w3.heap.size := by omega
      have hy1 : w.heap.size + 1 < w3.heap.size := by omega
      have hy2 : sb < w3.heap.size := by omega
      clear hdr d0 hb2 hz2 c6
      go_wp2
      have key1 := hide (show ∀ w', Below w3.heap.size w3 w' → (Below w3.heap.size w3 w' ∧ w'.cell? ⟨sb, 0, none⟩ = some (.int .i64 (n : Int)) ∧ w'.cell? ⟨sb, 1, none⟩ = some (.slice ae el ec) ∧ w'.cell? ⟨sb, 3, none⟩ = some (.int .i64 (tgN : Int)) ∧ w'.cell? ⟨sb, 7, none⟩ = some (.slice (some ⟨gp, 0, none⟩) n n) ∧ w3.heap.size ≤ w'.heap.size) from fun w' hb => ⟨hb, cu_below hb c0 hy2, cu_below hb c1 hy2, cu_below hb c3 hy2, cu_below hb c7 hy2, hb.size⟩)
      clear c0 c1 c3 c7
      go_upto_region 6 with fail
      refine wp_region_inv 14 (by kernel_rfl) [some 34, some 35, some 36, some 37, some 38, some 39, some 40, some 41, some 42, some 43, some 44, some 45, some 46, some 5] (FBw sb gp n tgN (.slice ae el ec) Lu pu cst w3.heap.size) (fun w' => Below w3.heap.size w3 w' ∧ w'.cell? ⟨sb, 0, none⟩ = some (.int .i64 (n : Int)) ∧ w'.cell? ⟨sb, 1, none⟩ = some (.slice ae el ec) ∧ w'.cell? ⟨sb, 3, none⟩ = some (.int .i64 (tgN : Int)) ∧ w'.cell? ⟨sb, 7, none⟩ = some (.slice (some ⟨gp, 0, none⟩) n n) ∧ w3.heap.size ≤ w'.heap.size) (fun w w' => Below w.heap.size w w') (by kernel_rfl) (by kernel_rfl) (by kernel_rfl) (by kernel_rfl) (fbw_stays) (fun _ _ h => h.size) (key1.out _ (below_drew _)) ?steps ?hend
      case steps =>
        refine ⟨?_, ?_, ?_, ?_, ?_, ?_, ?_, ?_, ?_, ?_, ?_, ?_, ?_, ?_, trivial⟩
        · intro X L H wI hS hd K hK
          have hS0 := hide hS
          (try dsimp only at hS)
          simp only [putAll, Act.put, List.setIfInBounds_toArray, List.set_cons_zero, List.set_cons_succ]
          go_simp
          refine hK _ _ wI.heap.size wI.heap.size _ ?_ (Nat.le_refl _) (Nat.le_refl _) (Nat.le_refl _) (Below.refl _ _) hS0.out rfl
          simp only [putAll, Act.put, List.setIfInBounds_toArray, List.set_cons_zero, List.set_cons_succ]
        · intro X L H wI hS hd K hK
          have h0 : X 0 = _ := hd 0 (by kernel_rfl)
          have hS0 := hide hS
          (try dsimp only at hS)
          simp only [putAll, Act.put, List.setIfInBounds_toArray, List.set_cons_zero, List.set_cons_succ]
          go_simp
          refine hK _ _ wI.heap.size wI.heap.size _ ?_ (Nat.le_refl _) (Nat.le_refl _) (Nat.le_refl _) (Below.refl _ _) hS0.out rfl
          simp only [putAll, Act.put, List.setIfInBounds_toArray, List.set_cons_zero, List.set_cons_succ, h0]
        · intro X L H wI hS hd K hK
          have h1 : X 1 = _ := hd 1 (by kernel_rfl)
          have hS0 := hide hS
          (try dsimp only at hS)
          simp only [putAll, Act.put, List.setIfInBounds_toArray, List.set_cons_zero, List.set_cons_succ]
          go_simp
          refine hK _ _ wI.heap.size wI.heap.size _ ?_ (Nat.le_refl _) (Nat.le_refl _) (Nat.le_refl _) (Below.refl _ _) hS0.out rfl
          simp only [putAll, Act.put, List.setIfInBounds_toArray, List.set_cons_zero, List.set_cons_succ, h1]
        · intro X L H wI hS hd K hK
          have h2 : X 2 = _ := hd 2 (by kernel_rfl)
          have hS0 := hide hS
          (try dsimp only at hS)
          simp only [putAll, Act.put, List.setIfInBounds_toArray, List.set_cons_zero, List.set_cons_succ]
          go_simp
          refine hK _ _ wI.heap.size wI.heap.size _ ?_ (Nat.le_refl _) (Nat.le_refl _) (Nat.le_refl _) (Below.refl _ _) hS0.out rfl
          simp only [putAll, Act.put, List.setIfInBounds_toArray, List.set_cons_zero, List.set_cons_succ, h2]
        · intro X L H wI hS hd K hK
          have hS0 := hide hS
          (try dsimp only at hS)
          simp only [putAll, Act.put, List.setIfInBounds_toArray, List.set_cons_zero, List.set_cons_succ]
          go_simp
          refine hK _ _ wI.heap.size wI.heap.size _ ?_ (Nat.le_refl _) (Nat.le_refl _) (Nat.le_refl _) (Below.refl _ _) hS0.out rfl
          simp only [putAll, Act.put, List.setIfInBounds_toArray, List.set_cons_zero, List.set_cons_succ]
        · intro X L H wI hS hd K hK
          have h4 : X 4 = _ := hd 4 (by kernel_rfl)
          have hS0 := hide hS
          (try dsimp only at hS)
          simp only [putAll, Act.put, List.setIfInBounds_toArray, List.set_cons_zero, List.set_cons_succ]
          go_simp
          refine hK _ _ wI.heap.size wI.heap.size _ ?_ (Nat.le_refl _) (Nat.le_refl _) (Nat.le_refl _) (Below.refl _ _) hS0.out rfl
          simp only [putAll, Act.put, List.setIfInBounds_toArray, List.set_cons_zero, List.set_cons_succ, h4]
        · intro X L H wI hS hd K hK
          have h5 : X 5 = _ := hd 5 (by kernel_rfl)
          have hS0 := hide hS
          (try dsimp only at hS)
          simp only [putAll, Act.put, List.setIfInBounds_toArray, List.set_cons_zero, List.set_cons_succ]
          go_simp
          refine hK _ _ wI.heap.size wI.heap.size _ ?_ (Nat.le_refl _) (Nat.le_refl _) (Nat.le_refl _) (Below.refl _ _) hS0.out rfl
          simp only [putAll, Act.put, List.setIfInBounds_toArray, List.set_cons_zero, List.set_cons_succ, h5]
        · intro X L H wI hS hd K hK
          have h6 : X 6 = _ := hd 6 (by kernel_rfl)
          have hS0 := hide hS
          (try dsimp only at hS)
          simp only [putAll, Act.put, List.setIfInBounds_toArray, List.set_cons_zero, List.set_cons_succ]
          go_simp
          refine hK _ _ wI.heap.size wI.heap.size _ ?_ (Nat.le_refl _) (Nat.le_refl _) (Nat.le_refl _) (Below.refl _ _) hS0.out rfl
          simp only [putAll, Act.put, List.setIfInBounds_toArray, List.set_cons_zero, List.set_cons_succ, h6]
        · intro X L H wI hS hd K hK
          have hS0 := hide hS
          (try dsimp only at hS)
          simp only [putAll, Act.put, List.setIfInBounds_toArray, List.set_cons_zero, List.set_cons_succ]
          go_simp
          refine hK _ _ wI.heap.size wI.heap.size _ ?_ (Nat.le_refl _) (Nat.le_refl _) (Nat.le_refl _) (Below.refl _ _) hS0.out rfl
          simp only [putAll, Act.put, List.setIfInBounds_toArray, List.set_cons_zero, List.set_cons_succ]
        · intro X L H wI hS hd K hK
          have h8 : X 8 = _ := hd 8 (by kernel_rfl)
          have hS0 := hide hS
          (try dsimp only at hS)
          simp only [putAll, Act.put, List.setIfInBounds_toArray, List.set_cons_zero, List.set_cons_succ]
          go_simp
          refine hK _ _ wI.heap.size wI.heap.size _ ?_ (Nat.le_refl _) (Nat.le_refl _) (Nat.le_refl _) (Below.refl _ _) hS0.out rfl
          simp only [putAll, Act.put, List.setIfInBounds_toArray, List.set_cons_zero, List.set_cons_succ, h8]
        · intro X L H wI hS hd K hK
          have h9 : X 9 = _ := hd 9 (by kernel_rfl)
          have hS0 := hide hS
          (try dsimp only at hS)
          simp only [putAll, Act.put, List.setIfInBounds_toArray, List.set_cons_zero, List.set_cons_succ]
          go_simp
          refine hK _ _ wI.heap.size wI.heap.size _ ?_ (Nat.le_refl _) (Nat.le_refl _) (Nat.le_refl _) (Below.refl _ _) hS0.out rfl
          simp only [putAll, Act.put, List.setIfInBounds_toArray, List.set_cons_zero, List.set_cons_succ, h9]
        · intro X L H wI hS hd K hK
          have h10 : X 10 = _ := hd 10 (by kernel_rfl)
          have hS0 := hide hS
          (try dsimp only at hS)
          simp only [putAll, Act.put, List.setIfInBounds_toArray, List.set_cons_zero, List.set_cons_succ]
          go_simp
          refine hK _ _ wI.heap.size wI.heap.size _ ?_ (Nat.le_refl _) (Nat.le_refl _) (Nat.le_refl _) (Below.refl _ _) hS0.out rfl
          simp only [putAll, Act.put, List.setIfInBounds_toArray, List.set_cons_zero, List.set_cons_succ, h10]
        · intro X L H wI hS hd K hK
          (try have h3 : X 3 = _ := hd 3 (by kernel_rfl))
          (try have h7 : X 7 = _ := hd 7 (by kernel_rfl))
          (try have h11 : X 11 = _ := hd 11 (by kernel_rfl))
          have hS0 := hide hS
          (try dsimp only at hS)
          simp only [putAll, Act.put, List.setIfInBounds_toArray, List.set_cons_zero, List.set_cons_succ]
          (go_simp; go_at_call 57; refine (hW.out _ (hb3.trans (hS0.out.1.mono (by omega)))).mono ?_; rintro e wB ⟨av, ak, rfl, oB, hbB⟩; exact hK _ _ wI.heap.size wB.heap.size _ (by simp only [putAll, Act.put, List.setIfInBounds_toArray, List.set_cons_zero, List.set_cons_succ, h3, h7, h11]) (Nat.le_refl _) hbB.size (Nat.le_refl _) hbB (key1.out _ (hS0.out.1.trans (hbB.mono hS0.out.2.2.2.2.2))) ⟨av, ak, rfl, oB, fun j hj => (oB.block_lt j hj).2, hS0.out.2.2.2.2.2⟩)
        · intro X L H wI hS hd K hK
          have hS0 := hide hS
          (try dsimp only at hS)
          simp only [putAll, Act.put, List.setIfInBounds_toArray, List.set_cons_zero, List.set_cons_succ]
          (go_simp; exact hK _ (.pointer (some ⟨wI.heap.size, 0, none⟩)) wI.heap.size (wI.heap.size + 1) _ (by simp only [putAll, Act.put, List.setIfInBounds_toArray, List.set_cons_zero, List.set_cons_succ]) (Nat.le_refl _) (by omega) (by simp) ((Below.refl _ _).alloc (Nat.le_refl _) _) (key1.out _ (hS0.out.1.alloc hS0.out.2.2.2.2.2 _)) ⟨rfl, hS0.out.2.2.2.2.2, by omega, by simp [go_sem], by simp [go_sem], by simp [go_sem], by simp [go_sem]⟩)
      case hend =>
        intro X L H wI hS hF hP
        (obtain ⟨av, ak, f12, o12, l12, b12⟩ := (hF 12 (by omega)).1; obtain ⟨f13, b13, l13, n0, n1, g0, g1⟩ := (hF 13 (by omega)).1; have p12 := hP 12 13 (by omega) (by omega) (by omega); have hbI := hS.1; clear hS hF hP; replace o12 := hide o12; replace l12 := hide l12; replace hbI := hide hbI; have zI := cell_lt n0; simp only at zI)
        simp only [putAll, Act.put, List.setIfInBounds_toArray, List.set_cons_zero, List.set_cons_succ, f12, f13]
        change wpAny _ _ _ _ (0 + 1) _ _ _
        refine wpAny_ready (rs := [14]) (by kernel_rfl) (by simp) (AllReady.cons rfl (fun K hK => ?_) AllReady.nil)
        go_simp
        refine hK _ _ ?_
        clear hK K
        refine wpAny_done (by kernel_rfl) ?_ _
        obtain ⟨bt, hbt⟩ : ∃ b, b = L 13 := ⟨_, rfl⟩
        simp only [← hbt] at b13 l13 n0 n1 g0 g1 p12 zI ⊢
        have hne : (Value.slice av Lu ak).ownBlock ≠ some bt := fun e => by have h1 := (o12.out.block_lt _ e).1; have h2 := l12.out _ e; omega
        obtain ⟨w8, hw8⟩ : ∃ w8, w8 = (wI.setCell ⟨bt, 0, none⟩ (.slice av Lu ak)).setCell ⟨bt, 1, none⟩ (.int .i64 cst) := ⟨_, rfl⟩
        have hb6 : Below w3.heap.size w3 w8 := by rw [hw8]; exact (hbI.out.setCell b13 _).setCell b13 _
        have u0 : w8.cell? ⟨bt, 0, none⟩ = some (.slice av Lu ak) := by rw [hw8]; simp [go_sem, n0, n1]
        have u1 : w8.cell? ⟨bt, 1, none⟩ = some (.int .i64 cst) := by rw [hw8]; simp [go_sem, n0, n1]
        have o8 := hide (show Own encI 1 3 w8 (L 12) (.slice av Lu ak) pu by rw [hw8]; exact (o12.out.elsewhere hne _).elsewhere hne _)
        simp only [← hw8]
        replace hw8 := hide hw8
        replace hbt := hide hbt
        have hrow := hrow.below hb6 (by omega)
        have b0 := cu_below hb6 b0 (by simp; omega)
        have b1 := cu_below hb6 b1 (by simp; omega)
        have e0 := cu_below hb6 e0 (by simp; omega)
        have e1 := cu_below hb6 e1 (by simp; omega)
        have f0 := fu_below hb6 f0 (by simp; omega)
        have f1 := fu_below hb6 f1 (by simp; omega)
        have hb8 := hb3.trans (hb6.mono (by omega))
        have hz8 : w3.heap.size ≤ w8.heap.size := hb6.size
        have hy0 : w.heap.size < w8.heap.size := by omega
        have hy1 : w.heap.size + 1 < w8.heap.size := by omega
        clear n0 n1 g0 g1 p12 o12 l12 hbI hb6 hne hb3 key1 hW zI
        by_cases hlt : cst < kc
        · have hA2 := hA.out
          rw [if_pos hlt] at hA2
          replace hA2 := hide hA2
          clear hA
          go_wp2
          refine bodyPost_ret (v := .agg #[.slice av Lu ak, .int .i64 cst]) (by simp [results, Try.results49, go_sem, e0, e1, f0, f1]) rfl ?_
          refine ⟨av, (pu, cst), Lu, ak, rfl, hpl2.symm, hA2.out, ?_, ?_⟩
          · exact ((o8.out.base_le (show w.heap.size + 1 ≤ _ by omega)).setCell (a := ⟨w.heap.size, 0, none⟩) (by simp) _).setCell (a := ⟨w.heap.size, 1, none⟩) (by simp) _ |>.base_le (by omega)
          · exact (hb8.setCell (by simp) _).setCell (by simp) _
        · have hA2 := hA.out
          rw [if_neg hlt] at hA2
          have hAB := hide hA2
          clear hA hA2
          go_wp2
          have key2 := hide (show ∀ w', Below w8.heap.size w8 w' → (Below w8.heap.size w8 w' ∧ w'.cell? ⟨w.heap.size + 1, 0, none⟩ = some (.slice pa pm pc) ∧ w'.cell? ⟨w.heap.size + 1, 1, none⟩ = some (.int .i64 kc) ∧ w8.heap.size ≤ w'.heap.size) from fun w' hb => ⟨hb, cu_below hb b0 hy1, cu_below hb b1 hy1, hb.size⟩)
          clear b0 b1
          go_upto_region 9 with fail
          refine wp_region_inv 6 (by kernel_rfl) [some 53, some 54, some 55, some 56, some 57, some 58] (FB9 (w.heap.size + 1) pa pm pc kc lp w8.heap.size) (fun w' => Below w8.heap.size w8 w' ∧ w'.cell? ⟨w.heap.size + 1, 0, none⟩ = some (.slice pa pm pc) ∧ w'.cell? ⟨w.heap.size + 1, 1, none⟩ = some (.int .i64 kc) ∧ w8.heap.size ≤ w'.heap.size) (fun w w' => Below w.heap.size w w') (by kernel_rfl) (by kernel_rfl) (by kernel_rfl) (by kernel_rfl) (fb9_stays) (fun _ _ h => h.size) (key2.out _ (below_drew _)) ?steps ?hend
          case steps =>
            refine ⟨?_, ?_, ?_, ?_, ?_, ?_, trivial⟩
            · intro X L H wI hS hd K hK
              have hS0 := hide hS
              (try dsimp only at hS)
              simp only [putAll, Act.put, List.setIfInBounds_toArray, List.set_cons_zero, List.set_cons_succ]
              go_simp
              refine hK _ _ wI.heap.size wI.heap.size _ ?_ (Nat.le_refl _) (Nat.le_refl _) (Nat.le_refl _) (Below.refl _ _) hS0.out rfl
              simp only [putAll, Act.put, List.setIfInBounds_toArray, List.set_cons_zero, List.set_cons_succ]
            · intro X L H wI hS hd K hK
              have h0 : X 0 = _ := hd 0 (by kernel_rfl)
              have hS0 := hide hS
              (try dsimp only at hS)
              simp only [putAll, Act.put, List.setIfInBounds_toArray, List.set_cons_zero, List.set_cons_succ]
              go_simp
              refine hK _ _ wI.heap.size wI.heap.size _ ?_ (Nat.le_refl _) (Nat.le_refl _) (Nat.le_refl _) (Below.refl _ _) hS0.out rfl
              simp only [putAll, Act.put, List.setIfInBounds_toArray, List.set_cons_zero, List.set_cons_succ, h0]
            · intro X L H wI hS hd K hK
              (try have h1 : X 1 = _ := hd 1 (by kernel_rfl))
              have hS0 := hide hS
              (try dsimp only at hS)
              simp only [putAll, Act.put, List.setIfInBounds_toArray, List.set_cons_zero, List.set_cons_succ]
              (refine wp_pushAll (enc := encI) (v := .slice none 0 0) (xs := []) (base := wI.heap.size) (.const (.slice none 0 0)) (.tmp 54) 22 rfl _ 8 Try.underlying22 info_int rfl (by omega) lenI oneI 0 rfl rfl (Own.nil _ _) w.heap.size pa pm pc lp hpm (by simp [Act.eval, h1]) (hrow.below hS0.out.1 (by omega)) (by omega) (by unfold maxLen; omega) (Nat.le_refl _) ?_; intro aq kq wq oq hbq _; simp only [List.nil_append, Nat.zero_add] at oq ⊢; exact hK _ _ wI.heap.size wq.heap.size _ (by simp only [putAll, Act.put, List.setIfInBounds_toArray, List.set_cons_zero, List.set_cons_succ, h1]) (Nat.le_refl _) hbq.size (Nat.le_refl _) hbq (key2.out _ (hS0.out.1.trans (hbq.mono hS0.out.2.2.2))) ⟨aq, kq, rfl, oq.base_le hS0.out.2.2.2⟩)
            · intro X L H wI hS hd K hK
              have hS0 := hide hS
              (try dsimp only at hS)
              simp only [putAll, Act.put, List.setIfInBounds_toArray, List.set_cons_zero, List.set_cons_succ]
              go_simp
              refine hK _ _ wI.heap.size wI.heap.size _ ?_ (Nat.le_refl _) (Nat.le_refl _) (Nat.le_refl _) (Below.refl _ _) hS0.out rfl
              simp only [putAll, Act.put, List.setIfInBounds_toArray, List.set_cons_zero, List.set_cons_succ]
            · intro X L H wI hS hd K hK
              have h3 : X 3 = _ := hd 3 (by kernel_rfl)
              have hS0 := hide hS
              (try dsimp only at hS)
              simp only [putAll, Act.put, List.setIfInBounds_toArray, List.set_cons_zero, List.set_cons_succ]
              go_simp
              refine hK _ _ wI.heap.size wI.heap.size _ ?_ (Nat.le_refl _) (Nat.le_refl _) (Nat.le_refl _) (Below.refl _ _) hS0.out rfl
              simp only [putAll, Act.put, List.setIfInBounds_toArray, List.set_cons_zero, List.set_cons_succ, h3]
            · intro X L H wI hS hd K hK
              (try have h2 : X 2 = _ := hd 2 (by kernel_rfl))
              (try have h4 : X 4 = _ := hd 4 (by kernel_rfl))
              have hS0 := hide hS
              (try dsimp only at hS)
              simp only [putAll, Act.put, List.setIfInBounds_toArray, List.set_cons_zero, List.set_cons_succ]
              (obtain ⟨aq, kq, h2', o2⟩ := hd 2 (by kernel_rfl); go_simp; refine hK _ _ wI.heap.size wI.heap.size _ ?_ (Nat.le_refl _) (Nat.le_refl _) (Nat.le_refl _) (Below.refl _ _) hS0.out ⟨aq, kq, rfl, o2⟩; simp only [putAll, Act.put, List.setIfInBounds_toArray, List.set_cons_zero, List.set_cons_succ, h2', h4])
          case hend =>
            intro X L H wI hS hF hP
            (obtain ⟨aq, kq, f5, o5⟩ := (hF 5 (by omega)).1; have hbI := hS.1; clear hS hF hP; replace o5 := hide o5; have e0 := cu_below hbI e0 hy0; have e1 := cu_below hbI e1 hy0; have f0 := fu_below hbI f0 hy0; have f1 := fu_below hbI f1 hy0; replace hbI := hide hbI)
            simp only [putAll, Act.put, List.setIfInBounds_toArray, List.set_cons_zero, List.set_cons_succ, f5]
            change wpAny _ _ _ _ (0 + 1) _ _ _
            refine wpAny_ready (rs := [6]) (by kernel_rfl) (by simp) (AllReady.cons rfl (fun K hK => ?_) AllReady.nil)
            go_simp
            refine hK _ _ ?_
            clear hK K
            refine wpAny_done (by kernel_rfl) ?_ _
            go_wp2
            refine bodyPost_ret (v := .agg #[.slice aq pm kq, .int .i64 kc]) (by simp [results, Try.results49, go_sem, e0, e1, f0, f1]) rfl ?_
            refine ⟨aq, (lp, kc), pm, kq, rfl, hpm.symm, hAB.out, ?_, ?_⟩
            · exact ((o5.out.setCell (a := ⟨w.heap.size, 0, none⟩) hy0 _).setCell (a := ⟨w.heap.size, 1, none⟩) hy0 _).base_le (by omega)
            · exact ((hb8.trans (hbI.out.mono (by omega))).setCell (by simp) _).setCell (by simp) _
    · have hAB := hide (hno.out (by unfold FAR; omega))
      clear hyes hno hch hWk
      go_quiet (fail)
      have hdr : Below w2.heap.size w2 (w2.drewN nq) := up_drewN (Below.refl _ _)
      have hb3 : Below w.heap.size w (w2.drewN nq) := up_drewN hb2
      have hz3 : (w2.drewN nq).heap.size = w.heap.size + 1 + 1 := hz2
      have b0 := cu_below hdr b0 (by simp; omega)
      have b1 := cu_below hdr b1 (by simp; omega)
      have e0 := cu_below hdr e0 (by simp; omega)
      have e1 := cu_below hdr e1 (by simp; omega)
      have f0 := fu_below hdr f0 (by simp; omega)
      have f1 := fu_below hdr f1 (by simp; omega)
      have hrow := hrow.below hdr (by omega)
      have hb8 := hb3
      generalize w2.drewN nq = w8 at hb8 hb3 hz3 b0 b1 e0 e1 f0 f1 hrow ⊢
      have hy0 : w.heap.size < w8.heap.size := by omega
      have hy1 : w.heap.size + 1 < w8.heap.size := by omega
      clear hdr d0 hb2 hz2 c0 c1 c3 c6 c7
      go_wp2
      have key2 := hide (show ∀ w', Below w8.heap.size w8 w' → (Below w8.heap.size w8 w' ∧ w'.cell? ⟨w.heap.size + 1, 0, none⟩ = some (.slice pa pm pc) ∧ w'.cell? ⟨w.heap.size + 1, 1, none⟩ = some (.int .i64 kc) ∧ w8.heap.size ≤ w'.heap.size) from fun w' hb => ⟨hb, cu_below hb b0 hy1, cu_below hb b1 hy1, hb.size⟩)
      clear b0 b1
      go_upto_region 9 with fail
      refine wp_region_inv 6 (by kernel_rfl) [some 53, some 54, some 55, some 56, some 57, some 58] (FB9 (w.heap.size + 1) pa pm pc kc lp w8.heap.size) (fun w' => Below w8.heap.size w8 w' ∧ w'.cell? ⟨w.heap.size + 1, 0, none⟩ = some (.slice pa pm pc) ∧ w'.cell? ⟨w.heap.size + 1, 1, none⟩ = some (.int .i64 kc) ∧ w8.heap.size ≤ w'.heap.size) (fun w w' => Below w.heap.size w w') (by kernel_rfl) (by kernel_rfl) (by kernel_rfl) (by kernel_rfl) (fb9_stays) (fun _ _ h => h.size) (key2.out _ (below_drew _)) ?steps ?hend
      case steps =>
        refine ⟨?_, ?_, ?_, ?_, ?_, ?_, trivial⟩
        · intro X L H wI hS hd K hK
          have hS0 := hide hS
          (try dsimp only at hS)
          simp only [putAll, Act.put, List.setIfInBounds_toArray, List.set_cons_zero, List.set_cons_succ]
          go_simp
          refine hK _ _ wI.heap.size wI.heap.size _ ?_ (Nat.le_refl _) (Nat.le_refl _) (Nat.le_refl _) (Below.refl _ _) hS0.out rfl
          simp only [putAll, Act.put, List.setIfInBounds_toArray, List.set_cons_zero, List.set_cons_succ]
        · intro X L H wI hS hd K hK
          have h0 : X 0 = _ := hd 0 (by kernel_rfl)
          have hS0 := hide hS
          (try dsimp only at hS)
          simp only [putAll, Act.put, List.setIfInBounds_toArray, List.set_cons_zero, List.set_cons_succ]
          go_simp
          refine hK _ _ wI.heap.size wI.heap.size _ ?_ (Nat.le_refl _) (Nat.le_refl _) (Nat.le_refl _) (Below.refl _ _) hS0.out rfl
          simp only [putAll, Act.put, List.setIfInBounds_toArray, List.set_cons_zero, List.set_cons_succ, h0]
        · intro X L H wI hS hd K hK
          (try have h1 : X 1 = _ := hd 1 (by kernel_rfl))
          have hS0 := hide hS
          (try dsimp only at hS)
          simp only [putAll, Act.put, List.setIfInBounds_toArray, List.set_cons_zero, List.set_cons_succ]
          (refine wp_pushAll (enc := encI) (v := .slice none 0 0) (xs := []) (base := wI.heap.size) (.const (.slice none 0 0)) (.tmp 54) 22 rfl _ 8 Try.underlying22 info_int rfl (by omega) lenI oneI 0 rfl rfl (Own.nil _ _) w.heap.size pa pm pc lp hpm (by simp [Act.eval, h1]) (hrow.below hS0.out.1 (by omega)) (by omega) (by unfold maxLen; omega) (Nat.le_refl _) ?_; intro aq kq wq oq hbq _; simp only [List.nil_append, Nat.zero_add] at oq ⊢; exact hK _ _ wI.heap.size wq.heap.size _ (by simp only [putAll, Act.put, List.setIfInBounds_toArray, List.set_cons_zero, List.set_cons_succ, h1]) (Nat.le_refl _) hbq.size (Nat.le_refl _) hbq (key2.out _ (hS0.out.1.trans (hbq.mono hS0.out.2.2.2))) ⟨aq, kq, rfl, oq.base_le hS0.out.2.2.2⟩)
        · intro X L H wI hS hd K hK
          have hS0 := hide hS
          (try dsimp only at hS)
          simp only [putAll, Act.put, List.setIfInBounds_toArray, List.set_cons_zero, List.set_cons_succ]
          go_simp
          refine hK _ _ wI.heap.size wI.heap.size _ ?_ (Nat.le_refl _) (Nat.le_refl _) (Nat.le_refl _) (Below.refl _ _) hS0.out rfl
          simp only [putAll, Act.put, List.setIfInBounds_toArray, List.set_cons_zero, List.set_cons_succ]
        · intro X L H wI hS hd K hK
          have h3 : X 3 = _ := hd 3 (by kernel_rfl)
          have hS0 := hide hS
          (try dsimp only at hS)
          simp only [putAll, Act.put, List.setIfInBounds_toArray, List.set_cons_zero, List.set_cons_succ]
          go_simp
          refine hK _ _ wI.heap.size wI.heap.size _ ?_ (Nat.le_refl _) (Nat.le_refl _) (Nat.le_refl _) (Below.refl _ _) hS0.out rfl
          simp only [putAll, Act.put, List.setIfInBounds_toArray, List.set_cons_zero, List.set_cons_succ, h3]
        · intro X L H wI hS hd K hK
          (try have h2 : X 2 = _ := hd 2 (by kernel_rfl))
          (try have h4 : X 4 = _ := hd 4 (by kernel_rfl))
          have hS0 := hide hS
          (try dsimp only at hS)
          simp only [putAll, Act.put, List.setIfInBounds_toArray, List.set_cons_zero, List.set_cons_succ]
          (obtain ⟨aq, kq, h2', o2⟩ := hd 2 (by kernel_rfl); go_simp; refine hK _ _ wI.heap.size wI.heap.size _ ?_ (Nat.le_refl _) (Nat.le_refl _) (Nat.le_refl _) (Below.refl _ _) hS0.out ⟨aq, kq, rfl, o2⟩; simp only [putAll, Act.put, List.setIfInBounds_toArray, List.set_cons_zero, List.set_cons_succ, h2', h4])
      case hend =>
        intro X L H wI hS hF hP
        (obtain ⟨aq, kq, f5, o5⟩ := (hF 5 (by omega)).1; have hbI := hS.1; clear hS hF hP; replace o5 := hide o5; have e0 := cu_below hbI e0 hy0; have e1 := cu_below hbI e1 hy0; have f0 := fu_below hbI f0 hy0; have f1 := fu_below hbI f1 hy0; replace hbI := hide hbI)
        simp only [putAll, Act.put, List.setIfInBounds_toArray, List.set_cons_zero, List.set_cons_succ, f5]
        change wpAny _ _ _ _ (0 + 1) _ _ _
        refine wpAny_ready (rs := [6]) (by kernel_rfl) (by simp) (AllReady.cons rfl (fun K hK => ?_) AllReady.nil)
        go_simp
        refine hK _ _ ?_
        clear hK K
        refine wpAny_done (by kernel_rfl) ?_ _
        go_wp2
        refine bodyPost_ret (v := .agg #[.slice aq pm kq, .int .i64 kc]) (by simp [results, Try.results49, go_sem, e0, e1, f0, f1]) rfl ?_
        refine ⟨aq, (lp, kc), pm, kq, rfl, hpm.symm, hAB.out, ?_, ?_⟩
        · exact ((o5.out.setCell (a := ⟨w.heap.size, 0, none⟩) hy0 _).setCell (a := ⟨w.heap.size, 1, none⟩) hy0 _).base_le (by omega)
        · exact ((hb8.trans (hbI.out.mono (by omega))).setCell (by simp) _).setCell (by simp) _
end
end Go.Proofs.Ytccailcjclbhlaa

/-! A search by rounds: the next round begun (again). Conditions: the object reads as AX says, the constants as AC says. -/
namespace Go.Proofs.Ytccailcjclbhlaa
open Go.RowKit
set_option linter.unusedSimpArgs false
set_option linter.unusedVariables false
/-- the next round begun -/
def aagain (s : AS) : AS := { s with wt := fun v => s.wt v || s.la v, lk := fun _ => false, la := fun _ => false }
/-- those that wait still, of whom the heap was emptied -/
def AIs (r : P2) (h : Nat → Int) (n : Nat) (s : AS) (X : List Ed) (g : Nat → Bool) : Prop :=
  (∀ v, v < n → g v = true → s.wt v = true) ∧ (∀ v, v < n → s.wt v = true → g v = true ∨ apl r h s v ∈ X) ∧ (∀ p ∈ X, ∃ v : Nat, v < n ∧ p.c = (v : Int) ∧ (s.lk v = false → s.wt v = true))
theorem ais_start {r : P2} {h : Nat → Int} {n : Nat} {s : AS} {X : List Ed} (hh : AHas r h n s X) : AIs r h n s X (fun _ => false) :=
  ⟨fun _ _ h => absurd h (by simp), fun v hv hw => .inr (hh.has v hv hw), fun p hp => by obtain ⟨v, h1, h2, _, _, _, h6⟩ := hh.ent p hp; exact ⟨v, h1, h2, h6⟩⟩
theorem ais_skip {r : P2} {h : Nat → Int} {n : Nat} {s : AS} {X X' : List Ed} {g : Nat → Bool} {p : Ed} {u : Nat} (hh : AIs r h n s X g) (hk : ∀ v, s.wt v = true → s.lk v = false) (hp : (p :: X').Perm X) (hc : p.c = (u : Int)) (hl : s.lk u = true) : AIs r h n s X' g := by
  refine ⟨hh.1, fun v hv hw => ?_, fun q hq => hh.2.2 q (hp.mem_iff.1 (List.mem_cons_of_mem _ hq))⟩
  rcases hh.2.1 v hv hw with h1 | h1
  · exact .inl h1
  · rcases List.mem_cons.1 (hp.mem_iff.2 h1) with h2 | h2
    · exfalso
      have h3 : ((v : Nat) : Int) = p.c := by rw [← h2]; rfl
      have h4 : v = u := by omega
      subst h4
      have := hk v hw
      rw [hl] at this; cases this
    · exact .inr h2
theorem ais_take {r : P2} {h : Nat → Int} {n : Nat} {s : AS} {X X' : List Ed} {g : Nat → Bool} {p : Ed} {u : Nat} (hh : AIs r h n s X g) (hp : (p :: X').Perm X) (hc : p.c = (u : Int)) (hl : s.lk u = false) : AIs r h n s X' (upz g u true) := by
  refine ⟨fun v hv hg => ?_, fun v hv hw => ?_, fun q hq => hh.2.2 q (hp.mem_iff.1 (List.mem_cons_of_mem _ hq))⟩
  · by_cases hvu : v = u
    · subst hvu
      obtain ⟨x, _, h2, h3⟩ := hh.2.2 p (hp.mem_iff.1 (List.mem_cons_self ..))
      have : x = v := by omega
      subst this
      exact h3 hl
    · rw [upz_other _ _ hvu] at hg; exact hh.1 v hv hg
  · by_cases hvu : v = u
    · subst hvu; exact .inl (upz_same _ _ _)
    · rw [upz_other _ _ hvu]
      rcases hh.2.1 v hv hw with h1 | h1
      · exact .inl h1
      · rcases List.mem_cons.1 (hp.mem_iff.2 h1) with h2 | h2
        · exfalso
          have h3 : ((v : Nat) : Int) = p.c := by rw [← h2]; rfl
          omega
        · exact .inr h2
theorem ais_end {r : P2} {h : Nat → Int} {n : Nat} {s : AS} {f : Nat → Ed} {g : Nat → Bool} (hh : AIs r h n s (RW 0 f) g) : ∀ v, v < n → g v = s.wt v := fun v hv => by
  cases hg : g v with
  | true => exact (hh.1 v hv hg).symm
  | false =>
    cases hw : s.wt v with
    | false => rfl
    | true =>
      rcases hh.2.1 v hv hw with h1 | h1
      · rw [hg] at h1; cases h1
      · simp [RW] at h1
/-- those put again so far -/
def aback (s : AS) (k : Nat) : AS := { aagain s with wt := fun v => (aagain s).wt v && decide (v < k) }
theorem aback_skip {r : P2} {h : Nat → Int} {n : Nat} {s : AS} {X : List Ed} {k : Nat} (hh : AHas r h n (aback s k) X) (hw : (aagain s).wt k = false) : AHas r h n (aback s (k + 1)) X := by
  have e : aback s (k + 1) = aback s k := by
    have e1 : (fun v => (aagain s).wt v && decide (v < k + 1)) = fun v => (aagain s).wt v && decide (v < k) := by
      funext v
      by_cases hv : v = k
      · subst hv; rw [hw]; rfl
      · rw [show decide (v < k + 1) = decide (v < k) from decide_eq_decide.2 (by omega)]
    unfold aback
    rw [e1]
  rw [e]; exact hh
theorem aback_put {r : P2} {h : Nat → Int} {n : Nat} {s : AS} {X X' : List Ed} {k : Nat} (hk : k < n) (hh : AHas r h n (aback s k) X) (hw : (aagain s).wt k = true) (hF : s.cost k < FAR) (hX : X'.Perm (apl r h s k :: X)) : AHas r h n (aback s (k + 1)) X' := by
  refine ⟨fun q hq => ?_, fun v hv hv2 => ?_⟩
  · rcases List.mem_cons.1 (hX.mem_iff.1 hq) with rfl | hq
    · exact ⟨k, hk, rfl, rfl, hF, Int.le_refl _, fun _ => by show ((aagain s).wt k && decide (k < k + 1)) = true; rw [hw]; simp⟩
    · obtain ⟨v, h1, h2, h3, h4, h5, h6⟩ := hh.ent q hq
      refine ⟨v, h1, h2, h3, h4, h5, fun hl => ?_⟩
      have h7 : ((aagain s).wt v && decide (v < k)) = true := h6 hl
      show ((aagain s).wt v && decide (v < k + 1)) = true
      rw [Bool.and_eq_true, decide_eq_true_eq] at h7 ⊢
      exact ⟨h7.1, by omega⟩
  · refine hX.mem_iff.2 ?_
    by_cases hvk : v = k
    · subst hvk; exact List.mem_cons_self ..
    · refine List.mem_cons_of_mem _ (hh.has v hv ?_)
      have h7 : ((aagain s).wt v && decide (v < k + 1)) = true := hv2
      show ((aagain s).wt v && decide (v < k)) = true
      rw [Bool.and_eq_true, decide_eq_true_eq] at h7 ⊢
      exact ⟨h7.1, by omega⟩
theorem aback_end {r : P2} {h : Nat → Int} {n : Nat} {s : AS} {X : List Ed} (hh : AHas r h n (aback s n) X) : AHas r h n (aagain s) X := by
  refine ⟨fun q hq => ?_, fun v hv hw => ?_⟩
  · obtain ⟨v, h1, h2, h3, h4, h5, h6⟩ := hh.ent q hq
    refine ⟨v, h1, h2, h3, h4, h5, fun hl => ?_⟩
    have h7 : ((aagain s).wt v && decide (v < n)) = true := h6 hl
    rw [Bool.and_eq_true] at h7
    exact h7.1
  · refine hh.has v hv ?_
    show ((aagain s).wt v && decide (v < n)) = true
    rw [hw]; simpa using hv
theorem lb_congr {n : Nat} {f g : Nat → Bool} (h : ∀ v, v < n → f v = g v) : LB n f = LB n g := by
  unfold LB
  exact List.map_congr_left fun v hv => h v (List.mem_range.1 hv)
theorem Own.wipeLB {e : TypeId} {base g n c : Nat} : ∀ (d i : Nat) (w : World) (f : Nat → Bool), Own encB 1 e w base (.slice (some ⟨g, 0, none⟩) n c) (LB n f) → i + d = n → (∀ v, v < i → f v = false) → Own encB 1 e (w.setCells g i (List.replicate d (.bool false))) base (.slice (some ⟨g, 0, none⟩) n c) (LB n (fun _ => false))
  | 0, i, w, f, h, hn, hf => by
    rw [lb_congr (g := fun _ => false) (fun v hv => hf v (by omega))] at h
    exact h
  | d + 1, i, w, f, h, hn, hf => Own.wipeLB d (i + 1) _ _ (h.setLB i (by omega) false) (by omega) (fun v hv => by
    by_cases hvi : v = i
    · subst hvi; exact upz_same _ _ _
    · rw [upz_other _ _ hvi]; exact hf v (by omega))
theorem zeroB (w : World) : (zeroValue 4).run Try.prog w = .ok (.bool false) w := by kernel_rfl
section
variable [AFr]
variable {n sb gc gp gd gh hc m wc el ec q qc t rc : Nat} {ha aw ae ar a0 : Option Addr} {ov : Value} {tg : Int} {f : Nat → Ed} {ll lc : Nat} {al : Option Addr} {ls : List Nat} {ros : List RV} {h : Nat → Int} {ws : List P2} {es : List Ed} {s : AS} {wS w : World}
/-- what again leaves -/
def AgainAns (n sb gc gp gd gh : Nat) (ev ov hv wv : Value) (tg : Int) (rv : Value) (ros : List RV) (r : P2) (h : Nat → Int) (s : AS) (wS : World) (e : Ending) (w' : World) : Prop :=
  e = .returned (.tuple #[]) ∧ ∃ a1 q1 c1 f1, AX n sb gc gp gd gh ev ov hv wv tg (.slice a1 q1 c1) q1 f1 (.slice none 0 0) [] rv ros (aagain s) wS w' ∧ q1 ≤ n ∧ HeapOK plLt q1 f1 ∧ AHas r h n (aagain s) (RW q1 f1)
/-- what stays while the row of those that wait is filled -/
def AGI (n sb gc gp gd gh : Nat) (ev ov hv wv : Value) (tg : Int) (lv : Value) (ls : List Nat) (rv : Value) (ros : List RV) (s : AS) (wS : World) (bi : Nat) (a1 : Option Addr) (q1 c1 : Nat) (f1 : Nat → Ed) (g : Nat → Bool) (wr : World) : Prop :=
  AX n sb gc gp gd gh ev ov hv wv tg (.slice a1 q1 c1) q1 f1 lv ls rv ros s wS wr ∧ Own encB 1 4 wr bi (.slice (some ⟨bi, 0, none⟩) n n) (LB n g) ∧ (Value.slice a1 q1 c1).ownBlock ≠ some bi ∧ lv.ownBlock ≠ some bi ∧ rv.ownBlock ≠ some bi ∧ ¬ Pathb ros bi ∧ wS.heap.size ≤ bi ∧ ¬ AFr.F bi
theorem AGI.stays {ev hv wv : Value} {lv rv : Value} {bi : Nat} {a1 : Option Addr} {q1 c1 : Nat} {f1 : Nat → Ed} {g : Nat → Bool} {wr w' : World} (H : AGI n sb gc gp gd gh ev ov hv wv tg lv ls rv ros s wS bi a1 q1 c1 f1 g wr) (hb : Below wr.heap.size wr w') : AGI n sb gc gp gd gh ev ov hv wv tg lv ls rv ros s wS bi a1 q1 c1 f1 g w' :=
  ⟨H.1.stays hb, H.2.1.stays hb, H.2.2⟩
theorem AGI.set {ev hv wv : Value} {lv rv : Value} {bi : Nat} {a1 : Option Addr} {q1 c1 : Nat} {f1 : Nat → Ed} {g : Nat → Bool} {wr : World} (H : AGI n sb gc gp gd gh ev ov hv wv tg lv ls rv ros s wS bi a1 q1 c1 f1 g wr) (u : Nat) (hu : u < n) : AGI n sb gc gp gd gh ev ov hv wv tg lv ls rv ros s wS bi a1 q1 c1 f1 (upz g u true) (wr.setCell ⟨bi, u, none⟩ (.bool true)) :=
  ⟨H.1.frame ((Keep.refl (fun j => j = bi) wr).setCell (p := ⟨bi, u, none⟩) (.inl rfl) (.bool true)) (fun j hj => by subst hj; exact ⟨H.2.2.2.2.2.2.1, H.2.2.1, H.2.2.2.1, H.2.2.2.2.1, H.2.2.2.2.2.1, H.2.2.2.2.2.2.2⟩), H.2.1.setLB u hu true, H.2.2⟩
set_option maxRecDepth 100000 in
set_option maxHeartbeats 8000000 in
theorem aagain_any (r r2 : P2) (hrt : ws[t]? = some r2) (hX : AX n sb gc gp gd gh (.slice ae el ec) ov (.slice ha n hc) (.slice aw m wc) tg (.slice a0 q qc) q f (.slice al ll lc) ls (.slice ar t rc) ros s wS w) (hC : AC n sb gc gp gd gh hc m wc el ec ha aw ae h ws es wS) (hq : q ≤ 100000) (hll : ll = ls.length) (hl2 : ll ≤ 1000000)
    (hcb : ∀ v, s.cost v = FAR ∨ (0 ≤ s.cost v ∧ s.cost v ≤ 1000000000)) (hk : ∀ v, s.wt v = true → s.lk v = false) (hok : HeapOK plLt q f) (hhs : AHas r h n s (RW q f)) (hla : LaL s ls) (hln : ∀ v ∈ ls, v < n) (hF : ∀ v, (aagain s).wt v = true → s.cost v < FAR) :
    Calls Try.prog 50 #[.pointer (some ⟨sb, 0, none⟩)] w (AgainAns n sb gc gp gd gh (.slice ae el ec) ov (.slice ha n hc) (.slice aw m wc) tg (.slice ar t rc) ros r2 h s wS) := by
  have hn64 := hC.hn
  have hmk := run_zerosB w n (by omega)
  obtain ⟨bi, hbi⟩ : ∃ bi, bi = w.heap.size := ⟨_, rfl⟩
  have c0 := hX.c0
  have zs0 := cell_lt c0
  simp only at zs0
  have hlt := hX.lt
  have hbig := hX.big
  have hA0 := hide (show AGI n sb gc gp gd gh (.slice ae el ec) ov (.slice ha n hc) (.slice aw m wc) tg (.slice al ll lc) ls (.slice ar t rc) ros s wS bi a0 q qc f (fun _ => false) (w.alloc (.cells (zerosB n) 4)) by
    refine ⟨hX.stays (up_alloc (Below.refl _ _) (Nat.le_refl _)), ?_, fun e => ?_, fun e => ?_, fun e => ?_, fun e => ?_, by omega, hX.nf.noF (by omega)⟩
    · rw [hbi, ← lb_ordB]; exact own_zerosB w w.heap.size n (Nat.le_refl _) (by omega)
    · have := (hX.heap.own.block_lt _ e).2; omega
    · have := (hX.late.block_lt _ e).2; omega
    · have := (hX.rnds.block_lt _ e).2; omega
    · have := (hX.told.lt e).2; omega)
  have hI0 := hide (ais_start hhs)
  have hok0 := hide hok
  have hC := hide hC
  replace hk := hide hk
  replace hF := hide hF
  replace hcb := hide hcb
  replace hla := hide hla
  replace hln := hide hln
  replace hrt := hide hrt
  replace hll := hide hll
  clear hX hok hhs
  go_enter Try.func50, Try.ntmps50
  go_wp2
  simp only [← hbi]
  replace hbi := hide hbi
  clear hmk c0
  go_loopg [] (q + 1) (fun gk wr => ∃ (q1 : Nat) (a1 : Option Addr) (c1 : Nat) (f1 : Nat → Ed) (g : Nat → Bool), Hid (AGI n sb gc gp gd gh (.slice ae el ec) ov (.slice ha n hc) (.slice aw m wc) tg (.slice al ll lc) ls (.slice ar t rc) ros s wS bi a1 q1 c1 f1 g wr) ∧ Hid (HeapOK plLt q1 f1) ∧ Hid (AIs r h n s (RW q1 f1) g) ∧ q1 < gk ∧ gk ≤ q + 1)
  case atStart => exact ⟨q, a0, qc, f, _, hA0, hok0, hI0, by omega, by omega⟩
  case round =>
    clear hA0 hok0 hI0
    obtain ⟨q1, a1, c1, f1, g, hA, hok, hI, hqg, hgk⟩ := hrel
    have k10 := hA.out.1.c10
    have kh1 := hA.out.1.heap.c1
    by_cases hq0 : q1 = 0
    · subst hq0
      have hge := hide (ais_end hI.out)
      go_wp2_with fail
      refine (lenT_any _ _ _ _ _ kh1).mono ?_
      rintro e w5 ⟨rfl, rfl⟩
      have k9 := hA.out.1.c9
      clear hok hI kh1 k10
      go_wp2
      have hA1 := hide (show AGI n sb gc gp gd gh (.slice ae el ec) ov (.slice ha n hc) (.slice aw m wc) tg (.slice al ll lc) ls (.slice ar t rc) ros s wS bi a1 0 c1 f1 g wr from hA.out)
      have hg1 := hide (show ∀ v, v < n → g v = (s.wt v || decide (v ∈ ls.take 0)) from fun v hv => by rw [hge.out v hv]; simp)
      clear hA hge
      go_loopw [5, 43] (fun _ i wr => ∃ (k : Nat) (g : Nat → Bool), k ≤ ll ∧ i = .int .i64 (k : Int) ∧ Hid (AGI n sb gc gp gd gh (.slice ae el ec) ov (.slice ha n hc) (.slice aw m wc) tg (.slice al ll lc) ls (.slice ar t rc) ros s wS bi a1 0 c1 f1 g wr) ∧ Hid (∀ v, v < n → g v = (s.wt v || decide (v ∈ ls.take k)))) (fun _ i _ => ll - (intOf i).toNat)
      case atStart => exact ⟨0, g, Nat.zero_le _, rfl, hA1, hg1⟩
      case round =>
        clear hA1 hg1 k9
        obtain ⟨k, g2, hkl, rfl, hA2, hg2⟩ := hrel
        by_cases hkl2 : k < ll
        · have hkls : k < ls.length := by have := hll.out; omega
          obtain ⟨gl, rfl, hgl1, hgl2⟩ := hA2.out.1.late.blockI' (by omega)
          obtain ⟨u, hu⟩ : ∃ u, u = ls[k] := ⟨_, rfl⟩
          have f2 : wr.cell? ⟨gl, k, none⟩ = some (.int .i64 (u : Int)) := by
            have := hA2.out.1.late.getI k (by rw [lp_len]; exact hkls)
            rw [hu]; simpa [LP] using this
          have hun : u < n := hln.out u (by rw [hu]; exact List.getElem_mem _)
          have dI := hA2.out.2.1.atLB u hun
          have fI := hA2.out.2.1.free u
          have hA3 := hide (hA2.out.set u hun)
          have hg3 := hide (show ∀ v, v < n → upz g2 u true v = (s.wt v || decide (v ∈ ls.take (k + 1))) from fun v hv => by
            rw [List.take_succ_eq_append_getElem hkls, ← hu]
            by_cases hvu : v = u
            · subst hvu; rw [upz_same]; simp
            · rw [upz_other _ _ hvu, hg2.out v hv]; simp [hvu])
          replace hu := hide hu
          have ik : (0 : Int) ≤ (k : Int) ∧ (k : Int) < (ll : Int) := by omega
          have iu : (0 : Int) ≤ (u : Int) ∧ (u : Int) < (n : Int) := by omega
          clear hA2 hg2
          go_wp2
          go_roundw
          case rel => exact ⟨k + 1, _, by omega, by go_num, hA3, hg3⟩
          case measure => simp [intOf]; omega
        · obtain rfl : ll = k := by omega
          have hg3 := hide (show ∀ v, v < n → g2 v = (aagain s).wt v from fun v hv => by
            rw [hg2.out v hv, List.take_of_length_le (by rw [← hll.out]; exact Nat.le_refl _)]
            show (s.wt v || decide (v ∈ ls)) = (s.wt v || s.la v)
            congr 1
            cases hb : s.la v with
            | true => simpa using (hla.out v).1 hb
            | false => simpa using fun hc => by rw [(hla.out v).2 hc] at hb; cases hb)
          have k9 := hA2.out.1.c9
          have f9 := hA2.out.1.fz 9
          have k8 := hA2.out.1.c8
          have hb := hA2.out.2.2
          have hgd : gd < wr.heap.size := by have := hA2.out.1.big; omega
          obtain ⟨w6, hw6⟩ : ∃ w6, w6 = wr.setCell ⟨sb, 9, none⟩ (.slice none 0 0) := ⟨_, rfl⟩
          have hX6 := hide (show AX n sb gc gp gd gh (.slice ae el ec) ov (.slice ha n hc) (.slice aw m wc) tg (.slice a1 0 c1) 0 f1 (.slice none 0 0) [] (.slice ar t rc) ros s wS w6 by
            rw [hw6]; exact hA2.out.1.setL (lv' := .slice none 0 0) (ls' := []) (Keep.refl _ _) (Own.nil _ _) (fun j hj => by simp [Value.ownBlock] at hj))
          have hI6 := hide (show Own encB 1 4 w6 bi (.slice (some ⟨bi, 0, none⟩) n n) (LB n (aagain s).wt) by
            rw [hw6, ← lb_congr hg3.out]; exact hA2.out.2.1.elsewhere (by simp [Value.ownBlock]; omega) _)
          have k86 : w6.cell? ⟨sb, 8, none⟩ = some (.slice (some ⟨gd, 0, none⟩) n n) := hX6.out.c8
          have hcl := fun ty => Lib.run_clear_slice (P := Try.prog) w6 84 4 ty (.bool false) Try.underlying84 zeroB rfl rfl gd 0 n n (by omega) (fun j hj => by rw [Nat.zero_add, hX6.out.atK j hj]; rfl) (fun j _ => hX6.out.lk.free _)
          obtain ⟨w7, hw7⟩ : ∃ w7, w7 = w6.setCells gd 0 (List.replicate n (.bool false)) := ⟨_, rfl⟩
          have hkp7 := hide (show Keep (fun j => j = gd) w6 w7 by rw [hw7]; exact Keep.setCellsI (S := fun j => j = gd) (b := gd) rfl _ _ _ (Keep.refl _ _))
          have hX7 := hide (show AX n sb gc gp gd gh (.slice ae el ec) ov (.slice ha n hc) (.slice aw m wc) tg (.slice a1 0 c1) 0 f1 (.slice none 0 0) [] (.slice ar t rc) ros (aagain s) wS w7 from
            (hX6.out.clearK hkp7.out (by rw [hw7]; exact Own.wipeLB n 0 w6 s.lk hX6.out.lk (by omega) (fun v hv => by omega))).re _ rfl rfl rfl rfl rfl)
          have hI7 := hide (hkp7.out.own hI6.out (fun j hj => by simp [Value.ownBlock] at hj; omega))
          have hb7 := hide (show (Value.slice a1 0 c1).ownBlock ≠ some bi from hb.1)
          have hbz : wS.heap.size ≤ bi := hb.2.2.2.2.1
          have hok7 := hide (show HeapOK plLt 0 f1 from fun i h1 h2 => by omega)
          have hh7 := hide (show AHas r2 h n (aback s 0) (RW 0 f1) from ⟨fun p hp => by simp [RW] at hp, fun v hv hw => by
            have h7 : ((aagain s).wt v && decide (v < 0)) = true := hw
            simp at h7⟩)
          clear hX6 hI6 hA2 hg2 hg3 hb hkp7
          go_wp2_with (simp only [← hw6, hcl, ← hw7])
          replace hw6 := hide hw6
          replace hw7 := hide hw7
          clear hcl k9 f9 k8 k86
          go_loopw [6, 7, 60] (fun _ _ i wr => ∃ (k q3 : Nat) (a3 : Option Addr) (c3 : Nat) (f3 : Nat → Ed), k ≤ n ∧ q3 ≤ k ∧ i = .int .i64 (k : Int) ∧ Hid (AX n sb gc gp gd gh (.slice ae el ec) ov (.slice ha n hc) (.slice aw m wc) tg (.slice a3 q3 c3) q3 f3 (.slice none 0 0) [] (.slice ar t rc) ros (aagain s) wS wr) ∧ Hid (Own encB 1 4 wr bi (.slice (some ⟨bi, 0, none⟩) n n) (LB n (aagain s).wt)) ∧ Hid ((Value.slice a3 q3 c3).ownBlock ≠ some bi) ∧ Hid (HeapOK plLt q3 f3) ∧ Hid (AHas r2 h n (aback s k) (RW q3 f3))) (fun _ _ i _ => n - (intOf i).toNat)
          case atStart => exact ⟨0, 0, a1, c1, f1, Nat.zero_le _, Nat.le_refl _, rfl, hX7, hI7, hb7, hok7, hh7⟩
          case round =>
            clear hX7 hI7 hb7 hok7 hh7
            obtain ⟨k, q3, a3, c3, f3, hkn, hq3, rfl, hX, hI, hb, hok, hh⟩ := hrel
            by_cases hlt2 : k < n
            · have dI := hI.out.atLB k hlt2
              have zI := cell_lt dI
              simp only at zI
              have ik : (0 : Int) ≤ (k : Int) ∧ (k : Int) < (n : Int) := by omega
              by_cases hw : (aagain s).wt k = true
              · rw [hw] at dI
                have hcu := hF.out k hw
                have hcu2 := hcb.out k
                obtain ⟨h1, h2⟩ := push_ok plLt_ord hok.out (apl r2 h (aagain s) k)
                have hh2 := hide (aback_put (X' := RW (q3 + 1) (siftUp plLt (upz f3 q3 (apl r2 h (aagain s) k)) q3)) hlt2 hh.out hw hcu (h2.trans List.perm_append_comm))
                have hPut := hide (aput_any k r2 hrt.out hX.out hC.out hlt2 (by show 0 ≤ s.cost k; unfold FAR at *; omega) (by show s.cost k ≤ 1000000000; unfold FAR at *; omega) (by omega))
                replace h1 := hide h1
                have hbb := hide (show ∀ w', Keep (fun j => j = gh ∨ (Value.slice a3 q3 c3).ownBlock = some j) wr w' → Own encB 1 4 w' bi (.slice (some ⟨bi, 0, none⟩) n n) (LB n (aagain s).wt) from fun w' hk => hk.own hI.out (fun j hj hc => by
                  have hj2 : bi = j := by simpa [Value.ownBlock] using hj
                  subst hj2
                  rcases hc with hc | hc
                  · omega
                  · exact hb.out hc))
                clear h2 hcu hcu2 hw hok hh hX
                go_wp2_with fail
                refine hPut.out.mono ?_
                rintro e w8 ⟨rfl, gs, cs, hX8, hK8, hg8⟩
                have hI8 := hide (hbb.out _ hK8)
                have hb8 := hide (show (Value.slice (some ⟨gs, 0, none⟩) (q3 + 1) cs).ownBlock ≠ some bi from fun e => by
                  have e2 : gs = bi := by simpa [Value.ownBlock] using e
                  subst e2
                  rcases hg8 with h3 | h3
                  · exact hb.out h3
                  · omega)
                replace hX8 := hide hX8
                clear hK8 hg8 hPut hbb
                go_wp2
                go_roundw
                case rel => exact ⟨k + 1, q3 + 1, _, _, _, by omega, by omega, by go_num, hX8, hI8, hb8, h1, hh2⟩
                case measure => simp [intOf]; omega
              · have hwf : (aagain s).wt k = false := by simpa using hw
                rw [hwf] at dI
                have hh2 := hide (aback_skip hh.out hwf)
                clear hw hwf hh
                go_wp2
                go_roundw
                case rel => exact ⟨k + 1, q3, _, _, _, by omega, by omega, by go_num, hX, hI, hb, hok, hh2⟩
                case measure => simp [intOf]; omega
            · obtain rfl : n = k := by omega
              have hh2 := hide (aback_end hh.out)
              clear hh
              go_wp2
              go_end0
              exact ⟨rfl, a3, q3, c3, f3, hX.out, hq3, hok.out, hh2.out⟩
    · obtain ⟨q', rfl⟩ : ∃ q', q1 = q' + 1 := ⟨q1 - 1, by omega⟩
      obtain ⟨gs, rfl, hgs1, hgs2⟩ := hA.out.1.heap.own.blockI' (by omega)
      have hqp : (0 : Int) < ((q' + 1 : Nat) : Int) := by omega
      obtain ⟨u, hun, hpc, hpw⟩ := hI.out.2.2 (f1 0) (by rw [RW]; exact List.mem_map.2 ⟨0, by simp, rfl⟩)
      obtain ⟨p1, p2⟩ := pop_ok plLt_ord hok.out
      have hPop := hide (popT_any gh gh q' gs c1 f1 wr hA.out.1.heap (by omega))
      obtain ⟨ff, hff⟩ : ∃ ff, ff = siftDown plLt q' (upz f1 0 (f1 q')) 0 := ⟨_, rfl⟩
      rw [← hff] at p1 p2 hPop
      have hskip := hide (fun (hl : s.lk u = true) => ais_skip hI.out hk.out p2 hpc hl)
      have htake := hide (fun (hl : s.lk u = false) => ais_take hI.out p2 hpc hl)
      obtain ⟨pk, hpk⟩ : ∃ pk, pk = (f1 0).u := ⟨_, rfl⟩
      obtain ⟨pv, hpv⟩ : ∃ pv, pv = (f1 0).v := ⟨_, rfl⟩
      have hf0 : f1 0 = ⟨pk, pv, (u : Int)⟩ := by rw [hpk, hpv, ← hpc]
      rw [hf0] at hPop
      replace p1 := hide p1
      have hXk := hide (fun (w' : World) h1 h2 => (show AGI n sb gc gp gd gh (.slice ae el ec) ov (.slice ha n hc) (.slice aw m wc) tg (.slice al ll lc) ls (.slice ar t rc) ros s wS bi (some ⟨gs, 0, none⟩) q' c1 ff g w' from ⟨hA.out.1.pop (w' := w') (gs := gs) (c := c1) (k' := q') (f' := ff) rfl h1 h2, h2.own hA.out.2.1 (fun j hj hc => by
        have h3 := hA.out.2.2.1
        have h4 := hA.out.2.2.2.2.2.2.1
        have hj2 : bi = j := by simpa [Value.ownBlock] using hj
        have h5 : ¬ gs = bi := fun e => h3 (by rw [← e]; rfl)
        rcases hc with hc | hc <;> omega), hA.out.2.2⟩))
      have iu : (0 : Int) ≤ (u : Int) ∧ (u : Int) < (n : Int) := by omega
      clear hpc hpw hf0 hpk hpv hI hok p2
      replace hff := hide hff
      go_wp2_with fail
      refine (lenT_any _ _ _ _ _ kh1).mono ?_
      rintro e w5 ⟨rfl, rfl⟩
      go_wp2_with fail
      refine hPop.out.mono ?_
      rintro e w6 ⟨rfl, hA6, hK6⟩
      have hX6 := hide (hXk.out _ hA6 hK6)
      clear hA6 hK6 hXk hPop kh1 k10 hA
      obtain ⟨w7, hw7⟩ : ∃ w7, w7 = w6.alloc (.cells #[.int .i64 pk, .int .i64 pv, .int .i64 (u : Int)] 92) := ⟨_, rfl⟩
      have hX7 := hide (hX6.out.stays (show Below w6.heap.size w6 w7 by rw [hw7]; exact up_alloc (Below.refl _ _) (Nat.le_refl _)))
      have m2 : w7.cell? ⟨w6.heap.size, 2, none⟩ = some (.int .i64 (u : Int)) := by rw [hw7]; simp [go_sem]
      have k8 := hX7.out.1.c8
      have dK := hX7.out.1.atK u hun
      clear hX6
      by_cases hlk : s.lk u = true
      · rw [hlk] at dK
        have hI2 := hide (hskip.out hlk)
        clear hskip htake hlk
        go_upto_region 3 with fail
        simp only [← hw7]
        replace hw7 := hide hw7
        go_quiet (fail)
        have hX8 := hide (hX7.out.stays (up_drewN (n := nq) (Below.refl _ _)))
        go_wp2
        go_roundg (gk - 1)
        case measure => omega
        case rel => exact ⟨q', _, _, _, _, hX8, p1, hI2, by omega, by omega⟩
      · have hlf : s.lk u = false := by simpa using hlk
        rw [hlf] at dK
        have hI2 := hide (htake.out hlf)
        clear hskip htake hlk hlf
        go_upto_region 3 with fail
        simp only [← hw7]
        replace hw7 := hide hw7
        go_quiet (fail)
        have hX8 := hide (hX7.out.stays (up_drewN (n := nq) (Below.refl _ _)))
        have m2 : (w7.drewN nq).cell? ⟨w6.heap.size, 2, none⟩ = some (.int .i64 (u : Int)) := m2
        clear k8 dK hX7
        generalize w7.drewN nq = w8 at hX8 m2 ⊢
        have dI := hX8.out.2.1.atLB u hun
        have fI := hX8.out.2.1.free u
        have hX9 := hide (hX8.out.set u hun)
        go_wp2
        go_roundg (gk - 1)
        case measure => omega
        case rel => exact ⟨q', _, _, _, _, hX9, p1, hI2, by omega, by omega⟩
end
end Go.Proofs.Ytccailcjclbhlaa

/-! A search by rounds: facts for its rounds' end (settle). No program here. -/
namespace Go.Proofs.Ytccailcjclbhlaa
set_option linter.unusedSimpArgs false
set_option linter.unusedVariables false
theorem left_top {r : P2} {h : Nat → Int} {n tg : Nat} {s : AS} {v : Nat} (hv : ANext r h n s v) : Left r h n tg s ↔ (¬ s.cost tg < FAR ∨ akey r h s v < akey r h s tg) := by
  constructor
  · rintro ⟨u, hu, hc⟩
    obtain rfl := anext_one hv hu
    exact hc
  · intro hc
    exact ⟨v, hv, hc⟩
theorem left_none {r : P2} {h : Nat → Int} {n tg : Nat} {s : AS} (hw : ∀ v, v < n → s.wt v = false) : ¬ Left r h n tg s := by
  rintro ⟨u, hu, _⟩
  have := hw u hu.1.1
  rw [hu.1.2] at this
  cases this
theorem lastWay_tell {r : P2} {p : List Int × Int} {s : AS} : lastWay (atell r p s) = p := by
  unfold lastWay atell
  simp
theorem abest_len {n tg : Nat} {es : List Ed} {h : Nat → Int} {s : AS} {p : List Int × Int} (hs : AOk n h s) (htg : tg < n) (hn : n ≤ 64) (hp : ABest n tg es s p) (hl : (lastWay s).1.length ≤ 64) : p.1.length ≤ 64 := by
  rcases hp with ⟨_, rfl⟩ | ⟨hF, l, hc, rfl⟩
  · exact hl
  · split
    · obtain ⟨l2, h1, h2, _⟩ := away hs htg hF
      rw [chain_one hc h1]
      show (LP l2.reverse).length ≤ 64
      rw [lp_len, List.length_reverse]
      omega
    · exact hl
end Go.Proofs.Ytccailcjclbhlaa
