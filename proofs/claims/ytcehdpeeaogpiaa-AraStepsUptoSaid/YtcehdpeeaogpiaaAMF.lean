/-
  Several texts in one:
  A search by taste: what it does, whoever does it. No program here.
  What holds while a search by taste runs: its object, the three rows. No condition.
  What focal's least, better and pick return. Conditions: the object reads as FX says; bounds on costs and guesses.
  What focal's pick returns: the place to look from, or -1. Conditions: the object reads as FX says; bounds; a right weight.
  What focal.Run makes at its start, what it answers. No condition.
-/
import Derived.Test.YtcehdpeeaogpiaaStarW
import Derived.Test.YtcehdpeeaogpiaaStarX
import Derived.Test.YtcehdpeeaogpiaaQuietH
import Derived.BigQuiet
import Derived.Deep.QuietTactic
import Derived.Test.YtcehdpeeaogpiaaFocW
import Derived.Test.YtcehdpeeaogpiaaStarO
/-! A search by taste: what it does, whoever does it. No program here. -/
namespace Go.Proofs.Ytcehdpeeaogpiaa
set_option linter.unusedSimpArgs false
set_option linter.unusedVariables false
/-- costs so far, where each was come to from, the places that wait, the places looked from -/
structure FR where
  cost : Nat → Int
  pred : Nat → Int
  wt : Nat → Bool
  ord : List Nat
def fsum (h : Nat → Int) (s : FR) (v : Nat) : Int := s.cost v + h v
/-- a place by its taste -/
def tpl (taste h : Nat → Int) (s : FR) (v : Nat) : Ed := ⟨taste v, fsum h s v, (v : Int)⟩
/-- one edge looked at from v -/
def fedge (h : Nat → Int) (v : Nat) (s : FR) (e : NE) : FR := if e.u = v ∧ h e.v ≠ FAR ∧ s.cost v + e.c < s.cost e.v then { s with cost := upz s.cost e.v (s.cost v + e.c), pred := upz s.pred e.v (v : Int), wt := upz s.wt e.v true } else s
def flook (s : FR) (v : Nat) : FR := { s with wt := upz s.wt v false, ord := s.ord ++ [v] }
def fexpand (E : List NE) (h : Nat → Int) (v : Nat) (s : FR) : FR := E.foldl (fedge h v) (flook s v)
def Least (h : Nat → Int) (n : Nat) (s : FR) (m : Int) : Prop := (∃ v, v < n ∧ s.wt v = true ∧ fsum h s v = m) ∧ ∀ v, v < n → s.wt v = true → m ≤ fsum h s v
def Adm (h : Nat → Int) (r : P2) (s : FR) (m : Int) (v : Nat) : Prop := s.wt v = true ∧ r.b * fsum h s v ≤ r.a * m
/-- the one to look from -/
def Pick (h taste : Nat → Int) (r : P2) (n : Nat) (s : FR) (v : Nat) : Prop := ∃ m, Least h n s m ∧ v < n ∧ Adm h r s m v ∧ ∀ u, u < n → Adm h r s m u → plLt (tpl taste h s u) (tpl taste h s v) = false
inductive FOut where
  | none
  | steps
  | found (s : FR)
inductive FRun (E : List NE) (h taste : Nat → Int) (r : P2) (n tg st : Nat) : FR → FOut → Prop
  | none (s : FR) (hw : ∀ v, v < n → s.wt v = false) : FRun E h taste r n tg st s .none
  | steps (s : FR) (v : Nat) (hp : Pick h taste r n s v) (hs : st ≤ s.ord.length) : FRun E h taste r n tg st s .steps
  | hit (s : FR) (hp : Pick h taste r n s tg) (hs : s.ord.length < st) : FRun E h taste r n tg st s (.found (flook s tg))
  | step (s : FR) (v : Nat) (o : FOut) (hp : Pick h taste r n s v) (hs : s.ord.length < st) (hv : v ≠ tg) (hr : FRun E h taste r n tg st (fexpand E h v s) o) : FRun E h taste r n tg st s o
theorem least_one {h : Nat → Int} {n : Nat} {s : FR} {m k : Int} (hm : Least h n s m) (hk : Least h n s k) : m = k := by
  obtain ⟨⟨u, hu1, hu2, hu3⟩, h1⟩ := hm
  obtain ⟨⟨v, hv1, hv2, hv3⟩, h2⟩ := hk
  have := h1 v hv1 hv2
  have := h2 u hu1 hu2
  omega
theorem pick_one {h taste : Nat → Int} {r : P2} {n : Nat} {s : FR} {u v : Nat} (hu : Pick h taste r n s u) (hv : Pick h taste r n s v) : u = v := by
  obtain ⟨m, a1, a2, a3, a4⟩ := hu
  obtain ⟨k, b1, b2, b3, b4⟩ := hv
  obtain rfl := least_one a1 b1
  have := plLt_tot (b4 u a2 a3) (a4 v b2 b3)
  simp only [tpl, Ed.mk.injEq] at this
  omega
theorem pick_wt {h taste : Nat → Int} {r : P2} {n : Nat} {s : FR} {v : Nat} (hp : Pick h taste r n s v) : v < n ∧ s.wt v = true := by
  obtain ⟨m, a1, a2, a3, a4⟩ := hp
  exact ⟨a2, a3.1⟩
theorem frun_one {E : List NE} {h taste : Nat → Int} {r : P2} {n tg st : Nat} {s : FR} {o p : FOut} (ho : FRun E h taste r n tg st s o) (hp : FRun E h taste r n tg st s p) : o = p := by
  have hno : ∀ {s : FR} {v : Nat}, (∀ v, v < n → s.wt v = false) → Pick h taste r n s v → False := fun hw hk => by
    have h1 := pick_wt hk
    rw [hw _ h1.1] at h1
    cases h1.2
  induction ho with
  | none s hw =>
    cases hp with
    | none _ _ => rfl
    | steps _ _ hk _ => exact (hno hw hk).elim
    | hit _ hk _ => exact (hno hw hk).elim
    | step _ _ _ hk _ _ _ => exact (hno hw hk).elim
  | steps s v hk hs =>
    cases hp with
    | none _ hw => exact (hno hw hk).elim
    | steps _ _ _ _ => rfl
    | hit _ _ h2 => omega
    | step _ _ _ _ h2 _ _ => omega
  | hit s hk hs =>
    cases hp with
    | none _ hw => exact (hno hw hk).elim
    | steps _ _ _ h2 => omega
    | hit _ _ _ => rfl
    | step _ _ _ hk2 _ hv _ => exact absurd (pick_one hk2 hk) hv
  | step s v o hk hs hv hr ih =>
    cases hp with
    | none _ hw => exact (hno hw hk).elim
    | steps _ _ _ h2 => omega
    | hit _ hk2 _ => exact absurd (pick_one hk hk2) hv
    | step _ u _ hk2 _ _ hr2 =>
      obtain rfl := pick_one hk hk2
      exact ih hr2
/-- what holds all along: bounds on the costs, ways that fall -/
structure FOk (n fr : Nat) (h : Nat → Int) (s : FR) : Prop where
  ordLt : ∀ v ∈ s.ord, v < n
  cb : ∀ v, s.cost v = FAR ∨ (0 ≤ s.cost v ∧ s.cost v ≤ 10000 * (s.ord.length : Int))
  wt : ∀ v, s.wt v = true → s.cost v < FAR ∧ h v ≠ FAR
  pr : ∀ v, s.cost v < FAR → s.pred v < 0 ∨ ∃ u : Nat, s.pred v = (u : Int) ∧ u < n ∧ s.cost u < FAR ∧ s.cost u < s.cost v
/-- while v's edges are looked at -/
structure FMid (n fr : Nat) (h : Nat → Int) (v : Nat) (s : FR) : Prop where
  ok : FOk n fr h s
  cv : 0 ≤ s.cost v ∧ s.cost v + 10000 ≤ 10000 * (s.ord.length : Int)
theorem fmid_start {n fr : Nat} {h : Nat → Int} {s : FR} (hs : FOk n fr h s) {v : Nat} (hv : v < n) (hw : s.wt v = true) : FMid n fr h v (flook s v) := by
  have h0 := (hs.wt v hw).1
  have hc := hs.cb v
  refine ⟨⟨fun u hu => ?_, fun u => ?_, fun u hu => ?_, fun u hu => hs.pr u hu⟩, ?_⟩
  · rcases List.mem_append.1 hu with h1 | h1
    · exact hs.ordLt u h1
    · simp at h1; subst h1; exact hv
  · rcases hs.cb u with h1 | h1
    · exact .inl h1
    · right
      simp only [flook, List.length_append, List.length_cons, List.length_nil]
      omega
  · by_cases huv : u = v
    · subst huv; simp [flook, upz_same] at hu
    · have : upz s.wt v false u = true := hu
      rw [upz_other _ _ huv] at this
      exact hs.wt u this
  · simp only [flook, List.length_append, List.length_cons, List.length_nil]
    omega
theorem fmid_edge {n fr : Nat} {h : Nat → Int} {v : Nat} {s : FR} (hs : FMid n fr h v s) (hvn : v < n) {e : NE} (he : 1 ≤ e.c ∧ e.c ≤ 10000) (hl : s.ord.length ≤ 100000) : FMid n fr h v (fedge h v s e) := by
  unfold fedge
  split
  · rename_i hc
    obtain ⟨h1, h2, h3⟩ := hc
    have hcv := hs.cv
    have hne : v ≠ e.v := fun e1 => by rw [← e1] at h3; omega
    have hvF : s.cost v < FAR := by unfold FAR; omega
    refine ⟨⟨hs.ok.ordLt, fun u => ?_, fun u hu => ?_, fun u hu => ?_⟩, ?_⟩
    · show upz s.cost e.v _ u = FAR ∨ (0 ≤ upz s.cost e.v _ u ∧ upz s.cost e.v _ u ≤ 10000 * (s.ord.length : Int))
      by_cases hu : u = e.v
      · subst hu
        rw [upz_same]
        right
        omega
      · rw [upz_other _ _ hu]
        exact hs.ok.cb u
    · show upz s.cost e.v _ u < FAR ∧ h u ≠ FAR
      have hu' : upz s.wt e.v true u = true := hu
      by_cases hu2 : u = e.v
      · subst hu2
        rw [upz_same]
        exact ⟨by unfold FAR; omega, h2⟩
      · rw [upz_other _ _ hu2] at hu' ⊢
        exact hs.ok.wt u hu'
    · have hu' : upz s.cost e.v (s.cost v + e.c) u < FAR := hu
      show upz s.pred e.v (v : Int) u < 0 ∨ ∃ z : Nat, upz s.pred e.v (v : Int) u = (z : Int) ∧ z < n ∧ upz s.cost e.v (s.cost v + e.c) z < FAR ∧ upz s.cost e.v (s.cost v + e.c) z < upz s.cost e.v (s.cost v + e.c) u
      by_cases hu2 : u = e.v
      · subst hu2
        right
        refine ⟨v, upz_same _ _ _, hvn, ?_, ?_⟩
        · rw [upz_other _ _ hne]; exact hvF
        · rw [upz_other _ _ hne, upz_same]; omega
      · rw [upz_other _ _ hu2] at hu' ⊢
        rw [upz_other _ _ hu2]
        rcases hs.ok.pr u hu' with h4 | ⟨z, z1, z2, z3, z4⟩
        · exact .inl h4
        · right
          refine ⟨z, z1, z2, ?_⟩
          by_cases hz : z = e.v
          · subst hz
            rw [upz_same]
            exact ⟨by omega, by omega⟩
          · rw [upz_other _ _ hz]
            exact ⟨z3, z4⟩
    · show 0 ≤ upz s.cost e.v _ v ∧ upz s.cost e.v _ v + 10000 ≤ 10000 * (s.ord.length : Int)
      rw [upz_other _ _ hne]
      exact hcv
  · exact hs
/-- a way up: none of its places twice -/
theorem fchain {n fr : Nat} {h : Nat → Int} {s : FR} (hs : FOk n fr h s) : ∀ (k : Nat) (v : Nat), v < n → s.cost v < FAR → s.cost v ≤ (k : Int) → ∃ l, Chain s.pred v l ∧ (∀ x ∈ l, x < n)
  | k, v, hv, hF, hk => by
    have hc := hs.cb v
    rcases hs.pr v hF with h1 | ⟨u, h1, h2, h3, h4⟩
    · exact ⟨[v], .top v h1, fun x hx => by simp at hx; subst hx; exact hv⟩
    · cases k with
      | zero =>
        have := hs.cb u
        unfold FAR at *
        omega
      | succ k =>
        obtain ⟨l, g1, g2⟩ := fchain hs k u h2 h3 (by omega)
        refine ⟨v :: l, .step v u l h1 g1, fun x hx => ?_⟩
        rcases List.mem_cons.1 hx with rfl | hx
        · exact hv
        · exact g2 x hx
theorem fway {n fr : Nat} {h : Nat → Int} {s : FR} (hs : FOk n fr h s) {v : Nat} (hv : v < n) (hF : s.cost v < FAR) : ∃ l, Chain s.pred v l ∧ l.length ≤ n ∧ ∀ x ∈ l, x < n := by
  obtain ⟨l, h1, h2⟩ := fchain hs (s.cost v).toNat v hv hF (by have := hs.cb v; omega)
  exact ⟨l, h1, nodup_shortS n l (chain_nodup h1) h2, h2⟩
/-- a place's own edges are enough -/
theorem ffold_own {h : Nat → Int} {v : Nat} : ∀ (E : List NE) (s : FR), E.foldl (fedge h v) s = (E.filter fun e => decide (e.u = v)).foldl (fedge h v) s
  | [], s => rfl
  | e :: r, s => by
    rw [List.foldl_cons, ffold_own r, List.filter_cons]
    by_cases he : e.u = v
    · simp [he]
    · have : fedge h v s e = s := by unfold fedge; rw [if_neg (fun hc => he hc.1)]
      simp [he, this]
/-- where it begins -/
def fStart (h : Nat → Int) (v : Nat) : FR := ⟨upz (fun _ => FAR) v 0, fun _ => -1, upz (fun _ => false) v (decide (h v ≠ FAR)), []⟩
theorem fok_start {n v : Nat} {h : Nat → Int} : FOk n v h (fStart h v) := by
  refine ⟨fun u hu => by simp [fStart] at hu, fun u => ?_, fun u hu => ?_, fun u hu => .inl (by simp [fStart])⟩
  · by_cases huv : u = v
    · subst huv; right; simp [fStart, upz_same]
    · left; show upz (fun _ => FAR) v 0 u = FAR; rw [upz_other _ _ huv]
  · have hu' : upz (fun _ => false) v (decide (h v ≠ FAR)) u = true := hu
    by_cases huv : u = v
    · subst huv
      rw [upz_same] at hu'
      refine ⟨?_, by simpa using hu'⟩
      show upz (fun _ => FAR) u 0 u < FAR
      rw [upz_same]; unfold FAR; omega
    · rw [upz_other _ _ huv] at hu'
      cases hu'
end Go.Proofs.Ytcehdpeeaogpiaa

/-! What holds while a search by taste runs: its object, the three rows. No condition. -/
namespace Go.Proofs.Ytcehdpeeaogpiaa
open Go.RowKit
set_option linter.unusedSimpArgs false
set_option linter.unusedVariables false
/-- the n first of a function as bools -/
def LB (n : Nat) (f : Nat → Bool) : List Bool := (List.range n).map f
theorem lb_len (n : Nat) (f : Nat → Bool) : (LB n f).length = n := by simp [LB]
theorem lb_set (n : Nat) (f : Nat → Bool) (i : Nat) (x : Bool) : (LB n f).set i x = LB n (upz f i x) := by
  refine List.ext_getElem (by simp [LB]) fun j h1 h2 => ?_
  simp only [LB, List.getElem_set, List.getElem_map, List.getElem_range]
  by_cases h : i = j
  · subst h; simp [upz_same]
  · rw [if_neg h, upz_other _ _ (fun e => h e.symm)]
theorem Own.atLB {e : TypeId} {w : World} {base g n c : Nat} {f : Nat → Bool} (h : Own encB 1 e w base (.slice (some ⟨g, 0, none⟩) n c) (LB n f)) (i : Nat) (hi : i < n) : w.cell? ⟨g, i, none⟩ = some (.bool (f i)) := by
  have := h.getB i (by rw [lb_len]; exact hi)
  simpa [LB] using this
theorem Own.setLB {e : TypeId} {w : World} {base g n c : Nat} {f : Nat → Bool} (h : Own encB 1 e w base (.slice (some ⟨g, 0, none⟩) n c) (LB n f)) (i : Nat) (hi : i < n) (x : Bool) : Own encB 1 e (w.setCell ⟨g, i, none⟩ (.bool x)) base (.slice (some ⟨g, 0, none⟩) n c) (LB n (upz f i x)) := by
  have := h.putB i (by rw [lb_len]; exact hi) x
  rwa [lb_set] at this
/-- the blocks that a search by taste writes -/
def FXb (gc gp gw : Nat) (j : Nat) : Prop := j = gc ∨ j = gp ∨ j = gw
/-- sb: the object; gc, gp, gw: costs, where from, waits; wS: the world right behind their making -/
structure FX (base n sb gc gp gw : Nat) (hv tv : Value) (ra rb : Int) (s : FR) (wS wr : World) : Prop where
  c0 : wr.cell? ⟨sb, 0, none⟩ = some hv
  c1 : wr.cell? ⟨sb, 1, none⟩ = some tv
  c2 : wr.cell? ⟨sb, 2, none⟩ = some (.slice (some ⟨gc, 0, none⟩) n n)
  c3 : wr.cell? ⟨sb, 3, none⟩ = some (.slice (some ⟨gp, 0, none⟩) n n)
  c4 : wr.cell? ⟨sb, 4, none⟩ = some (.slice (some ⟨gw, 0, none⟩) n n)
  c5 : wr.cell? ⟨sb, 5, none⟩ = some (.int .i64 ra)
  c6 : wr.cell? ⟨sb, 6, none⟩ = some (.int .i64 rb)
  cost : Own encI 1 3 wr base (.slice (some ⟨gc, 0, none⟩) n n) (LI n s.cost)
  pred : Own encI 1 3 wr base (.slice (some ⟨gp, 0, none⟩) n n) (LI n s.pred)
  wait : Own encB 1 4 wr base (.slice (some ⟨gw, 0, none⟩) n n) (LB n s.wt)
  keep : Keep (FXb gc gp gw) wS wr
  lt : sb < wS.heap.size ∧ gc < wS.heap.size ∧ gp < wS.heap.size ∧ gw < wS.heap.size
  ne : sb ≠ gc ∧ sb ≠ gp ∧ sb ≠ gw ∧ gc ≠ gp ∧ gc ≠ gw ∧ gp ≠ gw
section
variable {base n sb gc gp gw : Nat} {hv tv : Value} {ra rb : Int} {s : FR} {wS wr w' : World}
theorem FX.other (h : FX base n sb gc gp gw hv tv ra rb s wS wr) {T : Nat → Prop} (kp : Keep T wr w') (hT : ∀ j, T j → wS.heap.size ≤ j) : FX base n sb gc gp gw hv tv ra rb s wS w' := by
  have hl := h.lt
  have hn : ∀ j, j < wS.heap.size → ¬ T j := fun j hj hc => by have := hT j hc; omega
  exact ⟨kp.cu h.c0 (hn sb (by omega)), kp.cu h.c1 (hn sb (by omega)), kp.cu h.c2 (hn sb (by omega)), kp.cu h.c3 (hn sb (by omega)), kp.cu h.c4 (hn sb (by omega)), kp.cu h.c5 (hn sb (by omega)), kp.cu h.c6 (hn sb (by omega)),
    kp.own h.cost (fun j hj => hn j (by simp [Value.ownBlock] at hj; omega)), kp.own h.pred (fun j hj => hn j (by simp [Value.ownBlock] at hj; omega)), kp.own h.wait (fun j hj => hn j (by simp [Value.ownBlock] at hj; omega)),
    h.keep.trans2 kp (fun j hj => .inr (hT j hj)), h.lt, h.ne⟩
theorem FX.stays (h : FX base n sb gc gp gw hv tv ra rb s wS wr) (b : Below wr.heap.size wr w') : FX base n sb gc gp gw hv tv ra rb s wS w' :=
  h.other (T := fun _ => False) (Keep.new b) (fun j hj => hj.elim)
theorem FX.setC (h : FX base n sb gc gp gw hv tv ra rb s wS wr) (u : Nat) (hu : u < n) (x : Int) : FX base n sb gc gp gw hv tv ra rb { s with cost := upz s.cost u x } wS (wr.setCell ⟨gc, u, none⟩ (.int .i64 x)) := by
  have hl := h.lt
  have hn := h.ne
  have kp := (Keep.refl (fun j => j = gc) wr).setCell (p := ⟨gc, u, none⟩) (.inl rfl) (.int .i64 x)
  exact ⟨kp.cu h.c0 (by simp; omega), kp.cu h.c1 (by simp; omega), kp.cu h.c2 (by simp; omega), kp.cu h.c3 (by simp; omega), kp.cu h.c4 (by simp; omega), kp.cu h.c5 (by simp; omega), kp.cu h.c6 (by simp; omega),
    h.cost.setI u hu x, kp.own h.pred (fun j hj => by simp [Value.ownBlock] at hj; omega), kp.own h.wait (fun j hj => by simp [Value.ownBlock] at hj; omega), h.keep.setCell (.inl (.inl rfl)) _, h.lt, h.ne⟩
theorem FX.setP (h : FX base n sb gc gp gw hv tv ra rb s wS wr) (u : Nat) (hu : u < n) (x : Int) : FX base n sb gc gp gw hv tv ra rb { s with pred := upz s.pred u x } wS (wr.setCell ⟨gp, u, none⟩ (.int .i64 x)) := by
  have hl := h.lt
  have hn := h.ne
  have kp := (Keep.refl (fun j => j = gp) wr).setCell (p := ⟨gp, u, none⟩) (.inl rfl) (.int .i64 x)
  exact ⟨kp.cu h.c0 (by simp; omega), kp.cu h.c1 (by simp; omega), kp.cu h.c2 (by simp; omega), kp.cu h.c3 (by simp; omega), kp.cu h.c4 (by simp; omega), kp.cu h.c5 (by simp; omega), kp.cu h.c6 (by simp; omega),
    kp.own h.cost (fun j hj => by simp [Value.ownBlock] at hj; omega), h.pred.setI u hu x, kp.own h.wait (fun j hj => by simp [Value.ownBlock] at hj; omega), h.keep.setCell (.inl (.inr (.inl rfl))) _, h.lt, h.ne⟩
theorem FX.setW (h : FX base n sb gc gp gw hv tv ra rb s wS wr) (u : Nat) (hu : u < n) (x : Bool) : FX base n sb gc gp gw hv tv ra rb { s with wt := upz s.wt u x } wS (wr.setCell ⟨gw, u, none⟩ (.bool x)) := by
  have hl := h.lt
  have hn := h.ne
  have kp := (Keep.refl (fun j => j = gw) wr).setCell (p := ⟨gw, u, none⟩) (.inl rfl) (.bool x)
  exact ⟨kp.cu h.c0 (by simp; omega), kp.cu h.c1 (by simp; omega), kp.cu h.c2 (by simp; omega), kp.cu h.c3 (by simp; omega), kp.cu h.c4 (by simp; omega), kp.cu h.c5 (by simp; omega), kp.cu h.c6 (by simp; omega),
    kp.own h.cost (fun j hj => by simp [Value.ownBlock] at hj; omega), kp.own h.pred (fun j hj => by simp [Value.ownBlock] at hj; omega), h.wait.setLB u hu x, h.keep.setCell (.inl (.inr (.inr rfl))) _, h.lt, h.ne⟩
theorem FX.reord (h : FX base n sb gc gp gw hv tv ra rb s wS wr) (l : List Nat) : FX base n sb gc gp gw hv tv ra rb { s with ord := l } wS wr :=
  ⟨h.c0, h.c1, h.c2, h.c3, h.c4, h.c5, h.c6, h.cost, h.pred, h.wait, h.keep, h.lt, h.ne⟩
theorem FX.recost (h : FX base n sb gc gp gw hv tv ra rb s wS wr) (s' : FR) (h1 : LI n s.cost = LI n s'.cost) (h2 : LI n s.pred = LI n s'.pred) (h3 : LB n s.wt = LB n s'.wt) : FX base n sb gc gp gw hv tv ra rb s' wS wr :=
  ⟨h.c0, h.c1, h.c2, h.c3, h.c4, h.c5, h.c6, h1 ▸ h.cost, h2 ▸ h.pred, h3 ▸ h.wait, h.keep, h.lt, h.ne⟩
end
/-- the least among the k first places that wait: its value, and whether there is one -/
def lstF (h : Nat → Int) (s : FR) : Nat → Int × Bool
  | 0 => (0, false)
  | k + 1 => if s.wt k = true ∧ ((lstF h s k).2 = false ∨ fsum h s k < (lstF h s k).1) then (fsum h s k, true) else lstF h s k
theorem lstF_least (h : Nat → Int) (s : FR) : ∀ k, ((lstF h s k).2 = false ∧ ∀ v, v < k → s.wt v = false) ∨ ((lstF h s k).2 = true ∧ Least h k s (lstF h s k).1)
  | 0 => .inl ⟨rfl, fun v hv => by omega⟩
  | k + 1 => by
    have ih := lstF_least h s k
    rw [lstF]
    by_cases hw : s.wt k = true
    · by_cases hc : (lstF h s k).2 = false ∨ fsum h s k < (lstF h s k).1
      · rw [if_pos ⟨hw, hc⟩]
        right
        refine ⟨rfl, ⟨k, by omega, hw, rfl⟩, fun v hv hwv => ?_⟩
        rcases Nat.lt_or_ge v k with hvk | hvk
        · rcases ih with ⟨i1, i2⟩ | ⟨i1, i2⟩
          · rw [i2 v hvk] at hwv; cases hwv
          · rcases hc with hc | hc
            · rw [i1] at hc; cases hc
            · have := i2.2 v hvk hwv; simp only; omega
        · obtain rfl : v = k := by omega
          exact Int.le_refl _
      · rw [if_neg (fun x => hc x.2)]
        simp only [not_or, Bool.not_eq_false, Int.not_lt] at hc
        rcases ih with ⟨i1, i2⟩ | ⟨i1, i2⟩
        · rw [i1] at hc; cases hc.1
        · right
          obtain ⟨⟨u, u1, u2, u3⟩, i3⟩ := i2
          refine ⟨i1, ⟨u, by omega, u2, u3⟩, fun v hv hwv => ?_⟩
          rcases Nat.lt_or_ge v k with hvk | hvk
          · exact i3 v hvk hwv
          · obtain rfl : v = k := by omega
            exact hc.2
    · rw [if_neg (fun x => hw x.1)]
      have hwf : s.wt k = false := by simpa using hw
      rcases ih with ⟨i1, i2⟩ | ⟨i1, i2⟩
      · refine .inl ⟨i1, fun v hv => ?_⟩
        rcases Nat.lt_or_ge v k with hvk | hvk
        · exact i2 v hvk
        · obtain rfl : v = k := by omega
          exact hwf
      · right
        obtain ⟨⟨u, u1, u2, u3⟩, i3⟩ := i2
        refine ⟨i1, ⟨u, by omega, u2, u3⟩, fun v hv hwv => ?_⟩
        rcases Nat.lt_or_ge v k with hvk | hvk
        · exact i3 v hvk hwv
        · obtain rfl : v = k := by omega
          rw [hwf] at hwv; cases hwv
/-- the best among the k first, by step -/
def pstep (pl : Nat → Ed) (adm : Nat → Bool) (b : Int) (v : Nat) : Int := if adm v = true ∧ (b < 0 ∨ plLt (pl v) (pl b.toNat) = true) then (v : Int) else b
def pickF (pl : Nat → Ed) (adm : Nat → Bool) (l : List Nat) : Int := l.foldl (pstep pl adm) (-1)
theorem pick_filter (pl : Nat → Ed) (adm : Nat → Bool) : ∀ (l : List Nat) (b : Int), l.foldl (pstep pl adm) b = (l.filter adm).foldl (fstep pl) b
  | [], b => rfl
  | x :: r, b => by
    rw [List.foldl_cons, List.filter_cons]
    by_cases h : adm x = true
    · rw [if_pos h, List.foldl_cons, pick_filter pl adm r]
      congr 1
      unfold pstep fstep
      by_cases h2 : b < 0 ∨ plLt (pl x) (pl b.toNat) = true
      · rw [if_pos ⟨h, h2⟩, if_pos h2]
      · rw [if_neg (fun y => h2 y.2), if_neg h2]
    · rw [if_neg h, pick_filter pl adm r]
      congr 1
      unfold pstep
      rw [if_neg (fun y => h y.1)]
theorem pick_none (pl : Nat → Ed) (adm : Nat → Bool) (l : List Nat) (h : ∀ v ∈ l, adm v = false) : pickF pl adm l = -1 := by
  unfold pickF
  rw [pick_filter, List.filter_eq_nil_iff.2 (fun v hv => by rw [h v hv]; simp)]
  rfl
/-- picked out of all that wait, whatever list they stand in -/
theorem pick_is {h taste : Nat → Int} {r : P2} {n : Nat} {s : FR} {m : Int} (hr : 1 ≤ r.b ∧ r.b ≤ r.a) (hm : Least h n s m) (hm0 : 0 ≤ m) (adm : Nat → Bool) (l : List Nat) (hl : ∀ v, (v ∈ l ∧ adm v = true) ↔ (v < n ∧ Adm h r s m v)) :
    ∃ v : Nat, pickF (tpl taste h s) adm l = (v : Int) ∧ Pick h taste r n s v := by
  obtain ⟨⟨u, u1, u2, u3⟩, i3⟩ := id hm
  have hua : Adm h r s m u := ⟨u2, by rw [u3]; exact Int.mul_le_mul_of_nonneg_right hr.2 hm0⟩
  have hne : l.filter adm ≠ [] := fun e => by
    have h1 := (hl u).2 ⟨u1, hua⟩
    have : u ∈ l.filter adm := List.mem_filter.2 h1
    rw [e] at this; cases this
  obtain ⟨v, v1, v2, v3⟩ := firstR_mem (tpl taste h s) hne
  refine ⟨v, ?_, m, hm, ?_⟩
  · unfold pickF
    rw [pick_filter]
    exact v1
  · have h2 := (hl v).1 (List.mem_filter.1 v2)
    exact ⟨h2.1, h2.2, fun z hz hza => v3 z (List.mem_filter.2 ((hl z).2 ⟨hz, hza⟩))⟩
end Go.Proofs.Ytcehdpeeaogpiaa

/-! What focal's least, better and pick return. Conditions: the object reads as FX says; bounds on costs and guesses. -/
namespace Go.Proofs.Ytcehdpeeaogpiaa
open Go.RowKit
set_option linter.unusedSimpArgs false
set_option linter.unusedVariables false
/-- what is read alone: the object, the rows of guesses and tastes -/
structure FV (base n sb gc gp gw hc tc B : Nat) (ha ta : Option Addr) (ra rb : Int) (h taste : Nat → Int) (s : FR) (wS w : World) : Prop where
  fx : FX base n sb gc gp gw (.slice ha n hc) (.slice ta n tc) ra rb s wS w
  hr : Row encI 1 w B ha (LI n h)
  tr : Row encI 1 w B ta (LI n taste)
  hB : B ≤ w.heap.size
  hn : n ≤ 64
  hh : ∀ u, u < n → 0 ≤ h u ∧ h u ≤ 1099511627776
  hc : ∀ u, u < n → 0 ≤ s.cost u ∧ s.cost u ≤ 1099511627776
section
variable {base n sb gc gp gw hc tc B : Nat} {ha ta : Option Addr} {ra rb : Int} {h taste : Nat → Int} {s : FR} {wS w w' : World}
theorem FV.stays (v : FV base n sb gc gp gw hc tc B ha ta ra rb h taste s wS w) (b : Below w.heap.size w w') : FV base n sb gc gp gw hc tc B ha ta ra rb h taste s wS w' :=
  ⟨v.fx.stays b, v.hr.below b v.hB, v.tr.below b v.hB, Nat.le_trans v.hB b.size, v.hn, v.hh, v.hc⟩
end
set_option maxRecDepth 100000 in
set_option maxHeartbeats 4000000 in
theorem fleast_any (base n sb gc gp gw hc tc B : Nat) (ha ta : Option Addr) (ra rb : Int) (h taste : Nat → Int) (s : FR) (wS w : World) (hV : FV base n sb gc gp gw hc tc B ha ta ra rb h taste s wS w) :
    Calls Try.prog 193 #[.pointer (some ⟨sb, 0, none⟩)] w fun e w' => e = .returned (.tuple #[.int .i64 (lstF h s n).1, .bool (lstF h s n).2]) ∧ ∃ m, w' = w.drewN m := by
  have x0 := hV.fx.c0
  have x2 := hV.fx.c2
  have x4 := hV.fx.c4
  have hn := hV.hn
  have zs := cell_lt x0
  have hst := hide (show ∀ k, lstF h s (k + 1) = if s.wt k = true ∧ ((lstF h s k).2 = false ∨ fsum h s k < (lstF h s k).1) then (fsum h s k, true) else lstF h s k from fun k => rfl)
  replace hV := hide hV
  go_enter Try.func193, Try.ntmps193
  go_wp2
  go_loopw [4, 5, 14] (fun s4 s5 i wr => ∃ (k : Nat) (b : Int) (o : Bool), k ≤ n ∧ i = .int .i64 (k : Int) ∧ s4 = .int .i64 b ∧ s5 = .bool o ∧ Hid (lstF h s k = (b, o)) ∧ Hid (∃ m, wr = w.drewN m)) (fun _ _ i _ => n - (intOf i).toNat)
  case atStart => exact ⟨0, 0, false, Nat.zero_le _, rfl, rfl, rfl, hide rfl, hide ⟨0, rfl⟩⟩
  case round =>
    obtain ⟨k, b, o, hk, rfl, rfl, rfl, hl, hwm⟩ := hrel
    have hcell : Hid (∀ p v, w.cell? p = some v → wr.cell? p = some v) := hide (by obtain ⟨m, rfl⟩ := hwm.out; exact fun p v h => cu_drewN h)
    have hnext : Hid (∀ k, ∃ m, wr.drewN k = w.drewN m) := hide (by obtain ⟨m, rfl⟩ := hwm.out; exact fun k => ⟨m + k, by rw [World.drewN_drewN]⟩)
    have hwsz : w.heap.size = wr.heap.size := by obtain ⟨m, rfl⟩ := hwm.out; rfl
    by_cases hlt : k < n
    · have y2 := hcell.out _ _ x2
      have y0 := hcell.out _ _ x0
      have y4 := hcell.out _ _ x4
      have d1 := hcell.out _ _ (hV.out.fx.cost.atI k hlt)
      have d2 := hcell.out _ _ (hV.out.fx.wait.atLB k hlt)
      obtain ⟨hb, ho, rfl, hhb, d3⟩ := hV.out.hr.atI k hlt
      have d3 := hcell.out _ _ d3
      have hc1 := hV.out.hc k hlt
      have hh1 := hV.out.hh k hlt
      have zr := cell_lt d3
      have zs2 : sb < wr.heap.size := cell_lt y0
      have zc := cell_lt d1
      have zw := cell_lt d2
      (try simp only at zr)
      (try simp only at zc)
      (try simp only at zw)
      have hs2 := hst.out k
      rw [hl.out] at hs2
      simp only at hs2
      have hfs : fsum h s k = s.cost k + h k := rfl
      rw [hfs] at hs2
      obtain ⟨c, hcc⟩ : ∃ c, c = s.cost k := ⟨_, rfl⟩
      obtain ⟨g, hg⟩ : ∃ g, g = h k := ⟨_, rfl⟩
      rw [← hcc] at d1 hc1 hs2
      rw [← hg] at d3 hh1 hs2
      have hwr : IntKind.i64.wrap (c + g) = c + g := IntWalk.i64_in _ (by omega)
      have ik : (0 : Int) ≤ (k : Int) ∧ (k : Int) < (n : Int) := by omega
      replace hs2 := hide hs2
      clear hfs x0 x2 x4
      replace hcc := hide hcc
      replace hg := hide hg
      by_cases hw : s.wt k = true
      · rw [hw] at d2
        by_cases hob : o = false
        · subst hob
          have hnew := hide (show lstF h s (k + 1) = (c + g, true) by rw [hs2.out, if_pos ⟨hw, .inl rfl⟩])
          replace hw := hide hw
          go_wp2
          go_quiet (fail)
          go_wp2
          go_roundw
          case rel => exact ⟨k + 1, c + g, true, by omega, by go_num, rfl, rfl, hnew, hide (hnext.out nq)⟩
          case measure => simp [intOf]; omega
        · have ho1 : o = true := by simpa using hob
          subst ho1
          by_cases hlt2 : c + g < b
          · have hnew := hide (show lstF h s (k + 1) = (c + g, true) by rw [hs2.out, if_pos ⟨hw, .inr hlt2⟩])
            replace hw := hide hw
            go_wp2
            go_quiet (fail)
            go_wp2
            go_roundw
            case rel => exact ⟨k + 1, c + g, true, by omega, by go_num, rfl, rfl, hnew, hide (hnext.out nq)⟩
            case measure => simp [intOf]; omega
          · have hnew := hide (show lstF h s (k + 1) = (b, true) by rw [hs2.out, if_neg (by rintro ⟨_, h1 | h1⟩; cases h1; exact hlt2 h1)])
            replace hw := hide hw
            go_wp2
            go_quiet (fail)
            go_wp2
            go_roundw
            case rel => exact ⟨k + 1, b, true, by omega, by go_num, rfl, rfl, hnew, hide (hnext.out nq)⟩
            case measure => simp [intOf]; omega
      · have hwf : s.wt k = false := by simpa using hw
        rw [hwf] at d2
        have hnew := hide (show lstF h s (k + 1) = (b, o) by rw [hs2.out, if_neg (fun x => hw x.1)])
        replace hwf := hide hwf
        replace hw := hide hw
        go_wp2
        go_quiet (fail)
        go_wp2
        go_roundw
        case rel => exact ⟨k + 1, b, o, by omega, by go_num, rfl, rfl, hnew, hide (hnext.out nq)⟩
        case measure => simp [intOf]; omega
    · obtain rfl : n = k := by omega
      have hfin := hide hl.out
      go_wp2
      go_ret2
      rw [hfin.out]
      exact ⟨rfl, hwm.out⟩
set_option maxRecDepth 100000 in
set_option maxHeartbeats 4000000 in
theorem fbetter_any (base n sb gc gp gw hc tc B : Nat) (ha ta : Option Addr) (ra rb : Int) (h taste : Nat → Int) (s : FR) (wS w : World) (hV : FV base n sb gc gp gw hc tc B ha ta ra rb h taste s wS w) (a b : Nat) (ha1 : a < n) (hb1 : b < n) :
    Calls Try.prog 194 #[.pointer (some ⟨sb, 0, none⟩), .int .i64 (a : Int), .int .i64 (b : Int)] w fun e w' => e = .returned (.bool (plLt (tpl taste h s a) (tpl taste h s b))) ∧ ∃ m, w' = w.drewN m := by
  have x0 := hV.fx.c0
  have x1 := hV.fx.c1
  have x2 := hV.fx.c2
  have zs := cell_lt x0
  have p1 := hV.fx.cost.atI a ha1
  have p2 := hV.fx.cost.atI b hb1
  obtain ⟨hb, ho, rfl, hhb, p3⟩ := hV.hr.atI a ha1
  obtain ⟨hb', ho', he, hhb', p4⟩ := hV.hr.atI b hb1
  simp only [Option.some.injEq, Addr.mk.injEq] at he
  obtain ⟨rfl, rfl, -⟩ := he
  obtain ⟨tb, to', rfl, htb, p5⟩ := hV.tr.atI a ha1
  obtain ⟨tb', to'', he, htb', p6⟩ := hV.tr.atI b hb1
  simp only [Option.some.injEq, Addr.mk.injEq] at he
  obtain ⟨rfl, rfl, -⟩ := he
  have c1 := hV.hc a ha1
  have c2 := hV.hc b hb1
  have h1 := hV.hh a ha1
  have h2 := hV.hh b hb1
  have z3 := cell_lt p3
  have z5 := cell_lt p5
  have z1 := cell_lt p1
  (try simp only at zs)
  (try simp only at z1)
  (try simp only at z3)
  (try simp only at z5)
  have hpl : plLt (tpl taste h s a) (tpl taste h s b) = decide (taste a < taste b ∨ (taste a = taste b ∧ (s.cost a + h a < s.cost b + h b ∨ (s.cost a + h a = s.cost b + h b ∧ (a : Int) < (b : Int))))) := rfl
  rw [hpl]
  clear hpl
  generalize s.cost a = ca at p1 c1 ⊢
  generalize s.cost b = cb at p2 c2 ⊢
  generalize h a = ga at p3 h1 ⊢
  generalize h b = gb at p4 h2 ⊢
  generalize taste a = ta1 at p5 ⊢
  generalize taste b = tb1 at p6 ⊢
  have ia : (0 : Int) ≤ (a : Int) ∧ (a : Int) < (n : Int) := by omega
  have ib : (0 : Int) ≤ (b : Int) ∧ (b : Int) < (n : Int) := by omega
  have w1 : IntKind.i64.wrap (ca + ga) = ca + ga := IntWalk.i64_in _ (by omega)
  have w2 : IntKind.i64.wrap (cb + gb) = cb + gb := IntWalk.i64_in _ (by omega)
  clear hV
  by_cases ht : ta1 = tb1
  · subst ht
    have q1 : (ta1 != ta1) = false := by simp
    by_cases hs1 : ca + ga < cb + gb
    · have hfin := hide (show decide (ta1 < ta1 ∨ (ta1 = ta1 ∧ (ca + ga < cb + gb ∨ (ca + ga = cb + gb ∧ (a : Int) < (b : Int))))) = true by simp; omega)
      rw [hfin.out]
      go_enter Try.func194, Try.ntmps194
      go_wp2
      go_quiet (fail)
      go_wp2
      go_quiet (fail)
      go_wp2
      go_ret
      exact ⟨ret_bool (by first | rfl | (simp; done) | (simp; omega)), _, by first | rfl | exact World.drewN_drewN _ _ _⟩
    · by_cases hs2 : ca + ga = cb + gb
      · have q2 : (ca + ga == cb + gb) = true := by simpa using hs2
        have hs1' : ¬ (ca + ga < cb + gb) := hs1
        by_cases hab : (a : Int) < (b : Int)
        · have hfin := hide (show decide (ta1 < ta1 ∨ (ta1 = ta1 ∧ (ca + ga < cb + gb ∨ (ca + ga = cb + gb ∧ (a : Int) < (b : Int))))) = true by simp; omega)
          rw [hfin.out]
          replace hs2 := hide hs2
          go_enter Try.func194, Try.ntmps194
          go_wp2
          go_quiet (fail)
          go_wp2
          go_quiet (fail)
          go_wp2
          go_ret
          exact ⟨ret_bool (by first | rfl | (simp; done) | (simp; omega)), _, by first | rfl | exact World.drewN_drewN _ _ _⟩
        · have hfin := hide (show decide (ta1 < ta1 ∨ (ta1 = ta1 ∧ (ca + ga < cb + gb ∨ (ca + ga = cb + gb ∧ (a : Int) < (b : Int))))) = false by simp; omega)
          rw [hfin.out]
          replace hs2 := hide hs2
          go_enter Try.func194, Try.ntmps194
          go_wp2
          go_quiet (fail)
          go_wp2
          go_quiet (fail)
          go_wp2
          go_ret
          exact ⟨ret_bool (by first | rfl | (simp; done) | (simp; omega)), _, by first | rfl | exact World.drewN_drewN _ _ _⟩
      · have q2 : (ca + ga == cb + gb) = false := by simpa using hs2
        have hfin := hide (show decide (ta1 < ta1 ∨ (ta1 = ta1 ∧ (ca + ga < cb + gb ∨ (ca + ga = cb + gb ∧ (a : Int) < (b : Int))))) = false by simp; omega)
        rw [hfin.out]
        replace hs2 := hide hs2
        go_enter Try.func194, Try.ntmps194
        go_wp2
        go_quiet (fail)
        go_wp2
        go_quiet (fail)
        go_wp2
        go_ret
        exact ⟨ret_bool (by first | rfl | (simp; done) | (simp; omega)), _, by first | rfl | exact World.drewN_drewN _ _ _⟩
  · have q1 : (ta1 != tb1) = true := by simpa using ht
    by_cases hs1 : ta1 < tb1
    · have hfin := hide (show decide (ta1 < tb1 ∨ (ta1 = tb1 ∧ (ca + ga < cb + gb ∨ (ca + ga = cb + gb ∧ (a : Int) < (b : Int))))) = true by simp; omega)
      rw [hfin.out]
      replace ht := hide ht
      go_enter Try.func194, Try.ntmps194
      go_wp2
      go_quiet (fail)
      go_wp2
      go_quiet (fail)
      go_wp2
      go_ret
      exact ⟨ret_bool (by first | rfl | (simp; done) | (simp; omega)), _, by first | rfl | exact World.drewN_drewN _ _ _⟩
    · have hfin := hide (show decide (ta1 < tb1 ∨ (ta1 = tb1 ∧ (ca + ga < cb + gb ∨ (ca + ga = cb + gb ∧ (a : Int) < (b : Int))))) = false by simp; omega)
      rw [hfin.out]
      replace ht := hide ht
      go_enter Try.func194, Try.ntmps194
      go_wp2
      go_quiet (fail)
      go_wp2
      go_quiet (fail)
      go_wp2
      go_ret
      exact ⟨ret_bool (by first | rfl | (simp; done) | (simp; omega)), _, by first | rfl | exact World.drewN_drewN _ _ _⟩
end Go.Proofs.Ytcehdpeeaogpiaa

/-! What focal's pick returns: the place to look from, or -1. Conditions: the object reads as FX says; bounds; a right weight. -/
namespace Go.Proofs.Ytcehdpeeaogpiaa
open Go.RowKit
set_option linter.unusedSimpArgs false
set_option linter.unusedVariables false
def PickAns (h taste : Nat → Int) (r : P2) (n : Nat) (s : FR) (p : Int) : Prop := (p = -1 ∧ ∀ v, v < n → s.wt v = false) ∨ ∃ v : Nat, p = (v : Int) ∧ Pick h taste r n s v
theorem range_fold (pl : Nat → Ed) (adm : Nat → Bool) (k : Nat) : (List.range (k + 1)).foldl (pstep pl adm) (-1) = pstep pl adm ((List.range k).foldl (pstep pl adm) (-1)) k := by
  rw [List.range_succ, List.foldl_append]; rfl
set_option maxRecDepth 100000 in
set_option maxHeartbeats 8000000 in
theorem fpick_any (base n sb gc gp gw hc tc B : Nat) (ha ta : Option Addr) (ra rb : Int) (h taste : Nat → Int) (s : FR) (wS w : World) (hV : FV base n sb gc gp gw hc tc B ha ta ra rb h taste s wS w) (hr : 1 ≤ rb ∧ rb ≤ ra ∧ ra ≤ 1000000) :
    Calls Try.prog 132 #[.pointer (some ⟨sb, 0, none⟩)] w fun e w' => ∃ p, e = .returned (.int .i64 p) ∧ PickAns h taste ⟨ra, rb⟩ n s p ∧ ∃ m, w' = w.drewN m := by
  have hn := hV.hn
  have hL := hide (fleast_any base n sb gc gp gw hc tc B ha ta ra rb h taste s wS w hV)
  have hls := lstF_least h s n
  obtain ⟨m, hm⟩ : ∃ m, m = (lstF h s n).1 := ⟨_, rfl⟩
  obtain ⟨o, ho⟩ : ∃ o, o = (lstF h s n).2 := ⟨_, rfl⟩
  rw [← hm, ← ho] at hL hls
  replace hm := hide hm
  replace ho := hide ho
  rcases hls with ⟨rfl, hnw⟩ | ⟨rfl, hlm⟩
  · have hfin := hide (show PickAns h taste ⟨ra, rb⟩ n s (-1) from .inl ⟨rfl, hnw⟩)
    replace hnw := hide hnw
    replace hV := hide hV
    go_enter Try.func132, Try.ntmps132
    go_wp2_with fail
    refine hL.out.mono ?_
    rintro e w1 ⟨rfl, m1, hw1⟩
    have hV1 := hide (hV.out.stays (w' := w1) (by rw [hw1]; exact up_drewN (Below.refl _ _)))
    have x4 := hV1.out.fx.c4
    have z4 := cell_lt x4
    clear hL
    replace hw1 := hide hw1
    go_wp2
    go_loopw [5, 18] (fun s5 i wr => ∃ (k : Nat), k ≤ n ∧ i = .int .i64 (k : Int) ∧ s5 = .int .i64 (-1) ∧ Hid (∃ m, wr = w1.drewN m)) (fun _ i _ => n - (intOf i).toNat)
    case atStart => exact ⟨0, Nat.zero_le _, rfl, rfl, hide ⟨0, rfl⟩⟩
    case round =>
      obtain ⟨k, hk, rfl, rfl, hwm⟩ := hrel
      have hcell : Hid (∀ p v, w1.cell? p = some v → wr.cell? p = some v) := hide (by obtain ⟨m, rfl⟩ := hwm.out; exact fun p v h => cu_drewN h)
      have hnext : Hid (∀ k, ∃ m, wr.drewN k = w1.drewN m) := hide (by obtain ⟨m, rfl⟩ := hwm.out; exact fun k => ⟨m + k, by rw [World.drewN_drewN]⟩)
      by_cases hlt : k < n
      · have y4 := hcell.out _ _ x4
        have d2 := hcell.out _ _ (hV1.out.fx.wait.atLB k hlt)
        have zw := cell_lt d2
        have ik : (0 : Int) ≤ (k : Int) ∧ (k : Int) < (n : Int) := by omega
        generalize s.wt k = bw at d2
        clear x4
        go_wp2
        (refine wp_region_quiet_hid (by kernel_rfl) (by kernel_rfl) (fun wq hst hni => ?_); (repeat (refine hst.out _ _ _ _ (fun K hK => ?_); go_simp; first | (refine hK.out _ ?_; clear hK K) | (apply Exists.intro; refine ⟨fun _ => ?_, hK.out _ ?_⟩; (fail); clear hK K))); refine hni.out _ _ ?_; clear hst hni wq; intro wqq hw'; obtain ⟨nq, hw''⟩ := hw'; subst hw'')
        go_wp2
        go_roundw
        case rel => exact ⟨k + 1, by omega, by go_num, rfl, hide (hnext.out nq)⟩
        case measure => simp [intOf]; omega
      · obtain rfl : n = k := by omega
        go_wp2
        go_ret
        obtain ⟨m2, rfl⟩ := hwm.out
        refine ⟨-1, rfl, hfin.out, ?_⟩
        rw [hw1.out]
        exact ⟨m1 + m2, World.drewN_drewN _ _ _⟩
  · have hm0 : 0 ≤ m ∧ m ≤ 2199023255552 := by
      obtain ⟨⟨u, u1, u2, u3⟩, _⟩ := hlm
      have a1 := hV.hc u u1
      have a2 := hV.hh u u1
      unfold fsum at u3
      omega
    obtain ⟨adm, hadm⟩ : ∃ adm : Nat → Bool, adm = fun v => s.wt v && decide ((s.cost v + h v) * rb ≤ ra * m) := ⟨_, rfl⟩
    have hpk := hide (pick_is (taste := taste) (r := ⟨ra, rb⟩) ⟨hr.1, hr.2.1⟩ hlm hm0.1 adm (List.range n) (fun v => by
      rw [hadm]
      simp only [List.mem_range, Bool.and_eq_true, decide_eq_true_eq, Adm, fsum]
      rw [Int.mul_comm (s.cost v + h v) rb]))
    have hBt := hide (fun (a b : Nat) (j : Nat) (w' : World) (hw : ∃ m, w' = w.drewN m) (ha1 : a < n) (hb1 : b < n) => fbetter_any base n sb gc gp gw hc tc B ha ta ra rb h taste s wS w' (hV.stays (by obtain ⟨m, rfl⟩ := hw; exact up_drewN (Below.refl _ _))) a b ha1 hb1)
    have hst := hide (range_fold (tpl taste h s) adm)
    have hps := hide (show ∀ b v, pstep (tpl taste h s) adm b v = if (s.wt v && decide ((s.cost v + h v) * rb ≤ ra * m)) = true ∧ (b < 0 ∨ plLt (tpl taste h s v) (tpl taste h s b.toNat) = true) then (v : Int) else b from fun b v => by unfold pstep; rw [hadm])
    have q2 : 0 ≤ ra * m ∧ ra * m ≤ 2199023255552000000 := ⟨Int.mul_nonneg (by omega) hm0.1, by
      have : ra * m ≤ 1000000 * 2199023255552 := Int.mul_le_mul hr.2.2 hm0.2 hm0.1 (by omega)
      omega⟩
    have w2 : IntKind.i64.wrap (ra * m) = ra * m := IntWalk.i64_in _ (by omega)
    obtain ⟨pl, hpl⟩ : ∃ pl, pl = tpl taste h s := ⟨_, rfl⟩
    rw [← hpl] at hpk hst hps hBt
    replace hadm := hide hadm
    replace hpl := hide hpl
    replace hlm := hide hlm
    replace hV := hide hV
    go_enter Try.func132, Try.ntmps132
    go_wp2_with fail
    refine hL.out.mono ?_
    rintro e w1 ⟨rfl, m1, hw1⟩
    have hV1 := hide (hV.out.stays (w' := w1) (by rw [hw1]; exact up_drewN (Below.refl _ _)))
    have x0 := hV1.out.fx.c0
    have x2 := hV1.out.fx.c2
    have x4 := hV1.out.fx.c4
    have x5 := hV1.out.fx.c5
    have x6 := hV1.out.fx.c6
    have z4 := cell_lt x4
    clear hL
    replace hw1 := hide hw1
    go_wp2
    go_loopw [5, 18] (fun s5 i wr => ∃ (k : Nat) (b : Int), k ≤ n ∧ i = .int .i64 (k : Int) ∧ s5 = .int .i64 b ∧ Hid ((List.range k).foldl (pstep pl adm) (-1) = b) ∧ Hid (b = -1 ∨ ∃ u : Nat, b = (u : Int) ∧ u < n) ∧ Hid (∃ m, wr = w1.drewN m)) (fun _ i _ => n - (intOf i).toNat)
    case atStart => exact ⟨0, -1, Nat.zero_le _, rfl, rfl, hide rfl, hide (.inl rfl), hide ⟨0, rfl⟩⟩
    case round =>
      obtain ⟨k, b, hk, rfl, rfl, hfo, hbb, hwm⟩ := hrel
      have hcell : Hid (∀ p v, w1.cell? p = some v → wr.cell? p = some v) := hide (by obtain ⟨m, rfl⟩ := hwm.out; exact fun p v h => cu_drewN h)
      have hnext : Hid (∀ k, ∃ m, wr.drewN k = w1.drewN m) := hide (by obtain ⟨m, rfl⟩ := hwm.out; exact fun k => ⟨m + k, by rw [World.drewN_drewN]⟩)
      by_cases hlt : k < n
      · have y0 := hcell.out _ _ x0
        have y2 := hcell.out _ _ x2
        have y4 := hcell.out _ _ x4
        have y5 := hcell.out _ _ x5
        have y6 := hcell.out _ _ x6
        have d1 := hcell.out _ _ (hV1.out.fx.cost.atI k hlt)
        have d2 := hcell.out _ _ (hV1.out.fx.wait.atLB k hlt)
        obtain ⟨hb, ho1, rfl, hhb, d3⟩ := hV1.out.hr.atI k hlt
        have d3 := hcell.out _ _ d3
        have hc1 := hV1.out.hc k hlt
        have hh1 := hV1.out.hh k hlt
        have zw := cell_lt d2
        have zc := cell_lt d1
        have zr := cell_lt d3
        have zs := cell_lt y0
        (try simp only at zr)
        have ik : (0 : Int) ≤ (k : Int) ∧ (k : Int) < (n : Int) := by omega
        have hs2 := hst.out k
        rw [hfo.out, hps.out b k] at hs2
        obtain ⟨c, hcc⟩ : ∃ c, c = s.cost k := ⟨_, rfl⟩
        obtain ⟨g, hg⟩ : ∃ g, g = h k := ⟨_, rfl⟩
        rw [← hcc] at d1 hc1 hs2
        rw [← hg] at d3 hh1 hs2
        have hwr : IntKind.i64.wrap (c + g) = c + g := IntWalk.i64_in _ (by omega)
        have q3 : 0 ≤ (c + g) * rb ∧ (c + g) * rb ≤ 2199023255552000000 := ⟨Int.mul_nonneg (by omega) (by omega), by
          have : (c + g) * rb ≤ 2199023255552 * 1000000 := Int.mul_le_mul (by omega) (by omega) (by omega) (by omega)
          omega⟩
        have w3 : IntKind.i64.wrap ((c + g) * rb) = (c + g) * rb := IntWalk.i64_in _ (by omega)
        replace hcc := hide hcc
        replace hg := hide hg
        clear x0 x2 x4 x5 x6
        by_cases hw : s.wt k = true
        · rw [hw] at d2 hs2
          by_cases had : (c + g) * rb ≤ ra * m
          · by_cases hneg : b < 0
            · have hnew := hide (show (List.range (k + 1)).foldl (pstep pl adm) (-1) = (k : Int) by rw [hs2, if_pos ⟨by simpa using had, .inl hneg⟩])
              replace hw := hide hw
              clear hs2 hfo hbb
              go_wp2
              (refine wp_region_quiet_hid (by kernel_rfl) (by kernel_rfl) (fun wq hst hni => ?_); (repeat (refine hst.out _ _ _ _ (fun K hK => ?_); go_simp; first | (refine hK.out _ ?_; clear hK K) | (apply Exists.intro; refine ⟨fun _ => ?_, hK.out _ ?_⟩; (fail); clear hK K))); refine hni.out _ _ ?_; clear hst hni wq; intro wqq hw'; obtain ⟨nq, hw''⟩ := hw'; subst hw'')
              go_wp2
              go_roundw
              case rel => exact ⟨k + 1, (k : Int), by omega, by go_num, rfl, hnew, hide (.inr ⟨k, rfl, hlt⟩), hide (hnext.out nq)⟩
              case measure => simp [intOf]; omega
            · obtain ⟨u, rfl, hun⟩ : ∃ u : Nat, b = (u : Int) ∧ u < n := by rcases hbb.out with h1 | h1; omega; exact h1
              have hu0 : ((u : Nat) : Int).toNat = u := by simp
              rw [hu0] at hs2
              have hbu := hide (show (u : Int) = -1 ∨ ∃ z : Nat, (u : Int) = (z : Int) ∧ z < n from .inr ⟨u, rfl, hun⟩)
              have hB2 := hide (fun (j : Nat) => hBt.out k u j (wr.drewN j) (by obtain ⟨m2, e2⟩ := hnext.out j; rw [e2, hw1.out]; exact ⟨m1 + m2, World.drewN_drewN _ _ _⟩) hlt hun)
              clear hu0 hneg
              by_cases hpl2 : plLt (pl k) (pl u) = true
              · have hnew := hide (show (List.range (k + 1)).foldl (pstep pl adm) (-1) = (k : Int) by rw [hs2, if_pos ⟨by simpa using had, .inr hpl2⟩])
                rw [hpl2] at hB2
                replace hw := hide hw
                replace hpl2 := hide hpl2
                clear hs2 hfo hbb
                go_wp2
                (refine wp_region_quiet_hid (by kernel_rfl) (by kernel_rfl) (fun wq hst hni => ?_); (repeat (refine hst.out _ _ _ _ (fun K hK => ?_); go_simp; first | (refine hK.out _ ?_; clear hK K) | (apply Exists.intro; refine ⟨fun _ => ?_, hK.out _ ?_⟩; (go_at_call 194; exact Calls.quiet_of (hB2.out _)); clear hK K))); refine hni.out _ _ ?_; clear hst hni wq; intro wqq hw'; obtain ⟨nq, hw''⟩ := hw'; subst hw'')
                go_wp2
                go_roundw
                case rel => exact ⟨k + 1, (k : Int), by omega, by go_num, rfl, hnew, hide (.inr ⟨k, rfl, hlt⟩), hide (hnext.out nq)⟩
                case measure => simp [intOf]; omega
              · have hpl3 : plLt (pl k) (pl u) = false := by simpa using hpl2
                have hnew := hide (show (List.range (k + 1)).foldl (pstep pl adm) (-1) = (u : Int) by rw [hs2, if_neg (by rintro ⟨_, h1 | h1⟩; omega; exact hpl2 h1)])
                rw [hpl3] at hB2
                replace hw := hide hw
                replace hpl2 := hide hpl2
                replace hpl3 := hide hpl3
                clear hs2 hfo hbb
                go_wp2
                (refine wp_region_quiet_hid (by kernel_rfl) (by kernel_rfl) (fun wq hst hni => ?_); (repeat (refine hst.out _ _ _ _ (fun K hK => ?_); go_simp; first | (refine hK.out _ ?_; clear hK K) | (apply Exists.intro; refine ⟨fun _ => ?_, hK.out _ ?_⟩; (go_at_call 194; exact Calls.quiet_of (hB2.out _)); clear hK K))); refine hni.out _ _ ?_; clear hst hni wq; intro wqq hw'; obtain ⟨nq, hw''⟩ := hw'; subst hw'')
                go_wp2
                go_roundw
                case rel => exact ⟨k + 1, (u : Int), by omega, by go_num, rfl, hnew, hbu, hide (hnext.out nq)⟩
                case measure => simp [intOf]; omega
          · have hnew := hide (show (List.range (k + 1)).foldl (pstep pl adm) (-1) = b by rw [hs2, if_neg (fun x => had (by simpa using x.1))])
            have had2 : decide ((c + g) * rb ≤ ra * m) = false := by simpa using had
            have had3 : ((c + g) * rb ≤ ra * m) = False := eq_false had
            replace hw := hide hw
            clear hs2 hfo
            go_wp2
            (refine wp_region_quiet_hid (by kernel_rfl) (by kernel_rfl) (fun wq hst hni => ?_); (repeat (refine hst.out _ _ _ _ (fun K hK => ?_); go_simp; first | (refine hK.out _ ?_; clear hK K) | (apply Exists.intro; refine ⟨fun _ => ?_, hK.out _ ?_⟩; (fail); clear hK K))); refine hni.out _ _ ?_; clear hst hni wq; intro wqq hw'; obtain ⟨nq, hw''⟩ := hw'; subst hw'')
            go_wp2
            go_roundw
            case rel => exact ⟨k + 1, b, by omega, by go_num, rfl, hnew, hbb, hide (hnext.out nq)⟩
            case measure => simp [intOf]; omega
        · have hwf : s.wt k = false := by simpa using hw
          rw [hwf] at d2 hs2
          have hnew := hide (show (List.range (k + 1)).foldl (pstep pl adm) (-1) = b by rw [hs2, if_neg (fun x => by have := x.1; simp at this)])
          replace hwf := hide hwf
          replace hw := hide hw
          clear hs2 hfo
          go_wp2
          (refine wp_region_quiet_hid (by kernel_rfl) (by kernel_rfl) (fun wq hst hni => ?_); (repeat (refine hst.out _ _ _ _ (fun K hK => ?_); go_simp; first | (refine hK.out _ ?_; clear hK K) | (apply Exists.intro; refine ⟨fun _ => ?_, hK.out _ ?_⟩; (fail); clear hK K))); refine hni.out _ _ ?_; clear hst hni wq; intro wqq hw'; obtain ⟨nq, hw''⟩ := hw'; subst hw'')
          go_wp2
          go_roundw
          case rel => exact ⟨k + 1, b, by omega, by go_num, rfl, hnew, hbb, hide (hnext.out nq)⟩
          case measure => simp [intOf]; omega
      · obtain rfl : n = k := by omega
        have hfin := hfo.out
        obtain ⟨v, v1, v2⟩ := hpk.out
        unfold pickF at v1
        rw [hfin] at v1
        replace hfin := hide hfin
        have hans := hide (show PickAns h taste ⟨ra, rb⟩ n s b from .inr ⟨v, v1, v2⟩)
        replace v1 := hide v1
        replace v2 := hide v2
        go_wp2
        go_ret
        obtain ⟨m2, rfl⟩ := hwm.out
        refine ⟨b, rfl, hans.out, ?_⟩
        rw [hw1.out]
        exact ⟨m1 + m2, World.drewN_drewN _ _ _⟩
end Go.Proofs.Ytcehdpeeaogpiaa

/-! What focal.Run makes at its start, what it answers. No condition. -/
namespace Go.Proofs.Ytcehdpeeaogpiaa
open Go.RowKit
set_option linter.unusedSimpArgs false
set_option linter.unusedVariables false
theorem lb_ordB (n : Nat) : ordB n [] = LB n (fun _ => false) := by
  unfold ordB LB
  refine List.ext_getElem (by simp) fun i h1 h2 => by simp
theorem FX.rebase {base n sb gc gp gw : Nat} {hv tv : Value} {ra rb : Int} {s : FR} {wS wr : World} (h : FX base n sb gc gp gw hv tv ra rb s wS wr) : FX base n sb gc gp gw hv tv ra rb s wr wr :=
  ⟨h.c0, h.c1, h.c2, h.c3, h.c4, h.c5, h.c6, h.cost, h.pred, h.wait, Keep.refl _ _, by have := h.lt; have := h.keep.size; omega, h.ne⟩
/-- what a search by taste answers -/
def FocAns (es : List Ed) (h taste : Nat → Int) (r : P2) (n tg st : Nat) (s0 : FR) (w : World) (e : Ending) (w' : World) : Prop :=
  ∃ o, FRun (nes es) h taste r n tg st s0 o ∧ Below w.heap.size w w' ∧ match o with
    | .none => e = .returned (.tuple #[FoundNone, .int .i64 5])
    | .steps => e = .returned (.tuple #[FoundNone, .int .i64 8])
    | .found s => ∃ l a k b c, Chain s.pred tg l ∧ e = .returned (.tuple #[.agg #[.slice a l.length k, .int .i64 (wcost (n : Int) es (LP l.reverse)).1, .slice b s.ord.length c], .int .i64 0]) ∧ Own encI 1 3 w' w.heap.size (.slice a l.length k) (LP l.reverse) ∧ Own encI 1 3 w' w.heap.size (.slice b s.ord.length c) (LP s.ord)
/-- what each operation of its statement of the object leaves -/
def FFs (w0 : World) (n : Nat) (hv tv : Value) (ra rb : Int) (bg : Nat) : Nat → Value → Nat → Nat → World → Prop
  | 0, v, _, _, _ => v = hv
  | 1, v, _, _, _ => v = tv
  | 2, v, _, _, _ => v = .pointer (some ⟨bg, 0, none⟩)
  | 3, v, _, _, _ => v = .int .i64 (n : Int)
  | 4, v, lo, hi, w => v = .slice (some ⟨lo, 0, none⟩) n n ∧ lo < hi ∧ Own encI 1 3 w w0.heap.size (.slice (some ⟨lo, 0, none⟩) n n) (LI n (fun _ => 0))
  | 5, v, _, _, _ => v = .pointer (some ⟨bg, 0, none⟩)
  | 6, v, _, _, _ => v = .int .i64 (n : Int)
  | 7, v, lo, hi, w => v = .slice (some ⟨lo, 0, none⟩) n n ∧ lo < hi ∧ Own encI 1 3 w w0.heap.size (.slice (some ⟨lo, 0, none⟩) n n) (LI n (fun _ => 0))
  | 8, v, _, _, _ => v = .pointer (some ⟨bg, 0, none⟩)
  | 9, v, _, _, _ => v = .int .i64 (n : Int)
  | 10, v, lo, hi, w => v = .slice (some ⟨lo, 0, none⟩) n n ∧ lo < hi ∧ Own encB 1 4 w w0.heap.size (.slice (some ⟨lo, 0, none⟩) n n) (LB n (fun _ => false))
  | 11, v, _, _, _ => v = .agg #[.int .i64 ra, .int .i64 rb]
  | _, _, _, _, _ => True
theorem ffs_stays {w0 : World} {n : Nat} {hv tv : Value} {ra rb : Int} {bg : Nat} : ∀ (i : Nat) (v : Value) (lo hi : Nat) (w w' : World), FFs w0 n hv tv ra rb bg i v lo hi w → Below w.heap.size w w' → FFs w0 n hv tv ra rb bg i v lo hi w'
  | 0, _, _, _, _, _, h, _ => h
  | 1, _, _, _, _, _, h, _ => h
  | 2, _, _, _, _, _, h, _ => h
  | 3, _, _, _, _, _, h, _ => h
  | 4, _, _, _, _, _, ⟨h1, h2, h3⟩, hb => ⟨h1, h2, h3.stays hb⟩
  | 5, _, _, _, _, _, h, _ => h
  | 6, _, _, _, _, _, h, _ => h
  | 7, _, _, _, _, _, ⟨h1, h2, h3⟩, hb => ⟨h1, h2, h3.stays hb⟩
  | 8, _, _, _, _, _, h, _ => h
  | 9, _, _, _, _, _, h, _ => h
  | 10, _, _, _, _, _, ⟨h1, h2, h3⟩, hb => ⟨h1, h2, h3.stays hb⟩
  | 11, _, _, _, _, _, h, _ => h
  | _ + 12, _, _, _, _, _, _, _ => trivial
def MidF (w0 : World) (n : Nat) (hv tv : Value) (ra rb : Int) (s18 : Value) (wx : World) : Prop :=
  ∃ sb gc gp gw, s18 = .pointer (some ⟨sb, 0, none⟩) ∧ FX w0.heap.size n sb gc gp gw hv tv ra rb ⟨fun _ => 0, fun _ => 0, fun _ => false, []⟩ wx wx ∧ Below w0.heap.size w0 wx ∧ w0.heap.size ≤ sb
/-- what each operation of its answer leaves -/
def FFb (ng : Value) (sb gp n tg : Nat) (cst : Int) (ol : Value) (L : Nat) (pth : List Int) (b0 : Nat) : Nat → Value → Nat → Nat → World → Prop
  | 0, v, _, _, _ => v = ng
  | 1, v, _, _, _ => v = .pointer (some ⟨sb, 0, none⟩)
  | 2, v, _, _, _ => v = .pointer (some ⟨sb, 0, none⟩)
  | 3, v, _, _, _ => v = .pointer (some ⟨sb, 3, none⟩)
  | 4, v, _, _, _ => v = .slice (some ⟨gp, 0, none⟩) n n
  | 5, v, _, _, _ => v = .int .i64 (tg : Int)
  | 6, v, _, _, w => ∃ a k, v = .agg #[.slice a L k, .int .i64 cst] ∧ Own encI 1 3 w b0 (.slice a L k) pth
  | 7, v, _, _, _ => v = ol
  | _, _, _, _, _ => True
theorem ffb_stays {ng : Value} {sb gp n tg : Nat} {cst : Int} {ol : Value} {L : Nat} {pth : List Int} {b0 : Nat} : ∀ (i : Nat) (v : Value) (lo hi : Nat) (w w' : World), FFb ng sb gp n tg cst ol L pth b0 i v lo hi w → Below w.heap.size w w' → FFb ng sb gp n tg cst ol L pth b0 i v lo hi w'
  | 0, _, _, _, _, _, h, _ => h
  | 1, _, _, _, _, _, h, _ => h
  | 2, _, _, _, _, _, h, _ => h
  | 3, _, _, _, _, _, h, _ => h
  | 4, _, _, _, _, _, h, _ => h
  | 5, _, _, _, _, _, h, _ => h
  | 6, _, _, _, _, _, ⟨a, k, h1, h2⟩, hb => ⟨a, k, h1, h2.stays hb⟩
  | 7, _, _, _, _, _, h, _ => h
  | _ + 8, _, _, _, _, _, _, _ => trivial
end Go.Proofs.Ytcehdpeeaogpiaa
