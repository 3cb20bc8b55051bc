/-
  A part of the proof of ServePlays: AMB
-/
import Derived.Test.YtccailcjclbhlaaTopServiceA8
import Derived.Deep.QuietTactic
import Derived.Deep.Quiet
import Derived.OrdersHeld
import Derived.Deep.RegionLaw
import Derived.Test.YtccailcjclbhlaaTopServiceA6
import Derived.Test.YtccailcjclbhlaaTopServiceA9
/-! Several texts in one: -/
/-! A search by rounds: what holds all along, step by step. No program here. -/
namespace Go.Proofs.Ytccailcjclbhlaa
set_option linter.unusedSimpArgs false
set_option linter.unusedVariables false
/-- how many edges go out from places that were looked from in this round -/
def eB (es : List Ed) (lk : Nat → Bool) : Nat := (nes es).countP fun e => lk e.u
theorem eb_le (es : List Ed) (lk : Nat → Bool) : eB es lk ≤ es.length := by
  have := List.countP_le_length (p := fun e : NE => lk e.u) (l := nes es)
  simpa [eB, nes] using this
theorem count_mark {E : List NE} {lk : Nat → Bool} {v : Nat} (hv : lk v = false) : E.countP (fun e => upz lk v true e.u) = E.countP (fun e => lk e.u) + E.countP (fun e => decide (e.u = v)) := by
  induction E with
  | nil => rfl
  | cons e r ih =>
    simp only [List.countP_cons, ih]
    by_cases he : e.u = v
    · simp only [he, upz_same, hv]
      simp; omega
    · simp only [upz_other _ _ he, decide_eq_false he]
      simp; omega
theorem eb_look {n : Nat} {es : List Ed} (hR : Right n es) {lk : Nat → Bool} {v : Nat} (hv : lk v = false) : eB es (upz lk v true) = eB es lk + (outIdx es v es.length).length := by
  rw [todo_len hR v]
  exact count_mark hv
/-- how many places were looked from in this round -/
def nB (n : Nat) (lk : Nat → Bool) : Nat := (List.range n).countP lk
theorem nb_le (n : Nat) (lk : Nat → Bool) : nB n lk ≤ n := by
  have := List.countP_le_length (p := lk) (l := List.range n)
  simpa [nB] using this
theorem nb_none (n : Nat) : nB n (fun _ => false) = 0 := by simp [nB]
theorem nb_look {lk : Nat → Bool} {v : Nat} (hv : lk v = false) : ∀ n, v < n → nB n (upz lk v true) = nB n lk + 1
  | 0, h => by omega
  | n + 1, h => by
    unfold nB
    rw [List.range_succ, List.countP_append, List.countP_append]
    by_cases hvn : v = n
    · subst hvn
      have h1 : (List.range v).countP (upz lk v true) = (List.range v).countP lk := List.countP_congr fun x hx => by
        have := List.mem_range.1 hx
        rw [upz_other _ _ (by omega)]
      rw [h1]
      simp [List.countP_cons, upz_same, hv]
    · have := nb_look hv n (by omega)
      unfold nB at this
      rw [this]
      simp only [List.countP_cons, List.countP_nil, upz_other _ _ (fun e => hvn e.symm)]
      omega
structure AInv (n : Nat) (h : Nat → Int) (s : AS) : Prop where
  ok : AOk n h s
  dn : s.done ≤ 64 * s.told.length + nB n s.lk
  lw : (lastWay s).1.length ≤ 64
  lp : ∀ r ∈ s.told, r.path.length ≤ 64
theorem ainv_done {n : Nat} {h : Nat → Int} {s : AS} (hs : AInv n h s) (hn : n ≤ 64) {m : Nat} (hm : s.told.length ≤ m) (h8 : m ≤ 8) : s.done ≤ 600 := by
  have := hs.dn
  have := nb_le n s.lk
  omega
theorem ainv_tell {n tg : Nat} {es : List Ed} {h : Nat → Int} {s : AS} (hs : AInv n h s) (htg : tg < n) (hn : n ≤ 64) (r : P2) {p : List Int × Int} (hp : ABest n tg es s p) : AInv n h (atell r p s) := by
  refine ⟨aok_tell hs.ok r p, ?_, ?_, fun x hx => ?_⟩
  · have h1 := hs.dn
    have h2 := nb_le n s.lk
    have h3 : (atell r p s).told.length = s.told.length + 1 := by simp [atell]
    have h4 : nB n (atell r p s).lk = 0 := nb_none n
    rw [h3, h4]
    show s.done ≤ _
    omega
  · rw [lastWay_tell]
    exact abest_len hs.ok htg hn hp hs.lw
  · have hx2 : x ∈ s.told ++ [(⟨r.a, r.b, p.1, p.2, s.done⟩ : RD)] := hx
    rcases List.mem_append.1 hx2 with h1 | h1
    · exact hs.lp x h1
    · rw [List.mem_singleton.1 h1]
      exact abest_len hs.ok htg hn hp hs.lw
theorem ainv_settle {ws : List P2} {n tg : Nat} {es : List Ed} {h : Nat → Int} {s s' : AS} (hst : ASettle ws es h n tg s s') (htg : tg < n) (hn : n ≤ 64) (hs : AInv n h s) : AInv n h s' := by
  induction hst with
  | over _ _ => exact hs
  | left _ _ _ _ => exact hs
  | tell s s' r p hr hl hp ht ih => exact ih (ainv_tell hs htg hn r hp)
theorem settle_told {ws : List P2} {n tg : Nat} {es : List Ed} {h : Nat → Int} {s s' : AS} (hst : ASettle ws es h n tg s s') (hl : s.told.length ≤ ws.length) : s'.told.length ≤ ws.length ∧ s.told.length ≤ s'.told.length ∧ s'.done = s.done := by
  induction hst with
  | over _ _ => exact ⟨hl, Nat.le_refl _, rfl⟩
  | left _ _ _ _ => exact ⟨hl, Nat.le_refl _, rfl⟩
  | tell s s' r p hr hl2 hp ht ih =>
    have h1 := (List.getElem?_eq_some_iff.1 hr).1
    have h3 : (atell r p s).told.length = s.told.length + 1 := by simp [atell]
    obtain ⟨g1, g2, g3⟩ := ih (by omega)
    exact ⟨g1, by omega, g3⟩
theorem amd_fold {n v : Nat} {h : Nat → Int} (hv : v < n) : ∀ (E : List NE) (s : AS), AMd n h v s → (∀ e ∈ E, 1 ≤ e.c ∧ e.c ≤ 10000) → s.done ≤ 100000 → AMd n h v (E.foldl (aedge h v) s) ∧ (E.foldl (aedge h v) s).told = s.told ∧ (E.foldl (aedge h v) s).done = s.done ∧ (E.foldl (aedge h v) s).lk = s.lk
  | [], s, hs, _, _ => ⟨hs, rfl, rfl, rfl⟩
  | e :: r, s, hs, hE, hd => by
    have he : (aedge h v s e).told = s.told ∧ (aedge h v s e).done = s.done ∧ (aedge h v s e).lk = s.lk := by
      unfold aedge
      split <;> exact ⟨rfl, rfl, rfl⟩
    obtain ⟨g1, g2, g3, g4⟩ := amd_fold hv r (aedge h v s e) (amd_edge hs hv (hE e (List.mem_cons_self ..)) hd) (fun x hx => hE x (List.mem_cons_of_mem _ hx)) (by rw [he.2.1]; exact hd)
    exact ⟨g1, g2.trans he.1, g3.trans he.2.1, g4.trans he.2.2⟩
theorem aedge_same {h : Nat → Int} {v : Nat} {s : AS} {e : NE} : (aedge h v s e).told = s.told ∧ (aedge h v s e).done = s.done ∧ (aedge h v s e).lk = s.lk := by
  unfold aedge
  split <;> exact ⟨rfl, rfl, rfl⟩
theorem ainv_expand {n v m : Nat} {es : List Ed} {h : Nat → Int} {s : AS} (hs : AInv n h s) (hn : n ≤ 64) (hm : s.told.length ≤ m) (h8 : m ≤ 8) (hv : v < n) (hw : s.wt v = true) (hE : ∀ e ∈ nes es, 1 ≤ e.c ∧ e.c ≤ 10000) : AInv n h (aexpand (nes es) h v s) ∧ (aexpand (nes es) h v s).told = s.told ∧ (aexpand (nes es) h v s).done = s.done + 1 ∧ (aexpand (nes es) h v s).lk = upz s.lk v true := by
  have hd := ainv_done hs hn hm h8
  have hlk := (hs.ok.wt v hw).2
  obtain ⟨g1, g2, g3, g4⟩ := amd_fold hv (nes es) (alook s v) (amd_start hs.ok hv hw) hE (by show s.done + 1 ≤ _; omega)
  have e2 : (aexpand (nes es) h v s).told = s.told := g2
  have e3 : (aexpand (nes es) h v s).done = s.done + 1 := g3
  have e4 : (aexpand (nes es) h v s).lk = upz s.lk v true := g4
  refine ⟨⟨g1.ok, ?_, ?_, by rw [e2]; exact hs.lp⟩, e2, e3, e4⟩
  · rw [e2, e3, e4, nb_look hlk n hv]
    have := hs.dn
    omega
  · unfold lastWay
    rw [e2]
    exact hs.lw
/-- the heap, when its top was taken and looked from -/
theorem ahas_look {r : P2} {h : Nat → Int} {n : Nat} {s : AS} {X X' : List Ed} {v : Nat} (hh : AHas r h n s X) (hp : (apl r h s v :: X').Perm X) (d : Nat) : AHas r h n { s with wt := upz s.wt v false, lk := upz s.lk v true, done := d } X' := by
  refine ⟨fun q hq => ?_, fun u hu hw => ?_⟩
  · obtain ⟨u, h1, h2, h3, h4, h5, h6⟩ := hh.ent q (hp.mem_iff.1 (List.mem_cons_of_mem _ hq))
    refine ⟨u, h1, h2, h3, h4, h5, fun hl => ?_⟩
    have hl' : upz s.lk v true u = false := hl
    show upz s.wt v false u = true
    by_cases huv : u = v
    · subst huv; rw [upz_same] at hl'; cases hl'
    · rw [upz_other _ _ huv] at hl' ⊢
      exact h6 hl'
  · have hw' : upz s.wt v false u = true := hw
    by_cases huv : u = v
    · subst huv; rw [upz_same] at hw'; cases hw'
    · rw [upz_other _ _ huv] at hw'
      rcases List.mem_cons.1 (hp.mem_iff.2 (hh.has u hu hw')) with h1 | h1
      · exfalso
        have : ((u : Nat) : Int) = (v : Int) := by
          have := congrArg Ed.c h1
          exact this
        omega
      · exact h1
theorem asteps_snoc {ws : List P2} {es : List Ed} {h : Nat → Int} {n tg N k : Nat} {s a b : AS} (h1 : ASteps ws es h n tg k s k a) (hlt : a.told.length < ws.length) (h2 : AStep ws es h n tg a b) : ASteps ws es h n tg (k + 1) s (k + 1) b := by
  generalize hj : k = j at h1
  have : ∀ i j s a, ASteps ws es h n tg i s j a → i = j → a.told.length < ws.length → AStep ws es h n tg a b → ASteps ws es h n tg (i + 1) s (j + 1) b := by
    intro i j s a hh
    induction hh with
    | zero s => exact fun _ hlt h2 => .step 0 0 s b b hlt h2 (.zero b)
    | over k s ho => exact fun e hlt _ => by omega
    | step k j s s1 s2 hl h1 h2 ih => exact fun e hlt h3 => .step (k + 1) (j + 1) s s1 b hl h1 (ih (by omega) hlt h3)
  subst hj
  exact this k k s a h1 rfl hlt h2
/-- steps that were all made, none was left -/
theorem asteps_over {ws : List P2} {es : List Ed} {h : Nat → Int} {n tg N k : Nat} {s a : AS} (h1 : ASteps ws es h n tg k s k a) (hk : k ≤ N) (ho : ws.length ≤ a.told.length) : ASteps ws es h n tg N s k a := by
  have : ∀ i j s a, ASteps ws es h n tg i s j a → i = j → ws.length ≤ a.told.length → ∀ N, i ≤ N → ASteps ws es h n tg N s j a := by
    intro i j s a hh
    induction hh with
    | zero s => exact fun _ ho N _ => .over N s ho
    | over k s ho => exact fun e _ N _ => .over N s ho
    | step k j s s1 s2 hl h1 h2 ih =>
      intro e ho N hN
      obtain ⟨N', rfl⟩ : ∃ N', N = N' + 1 := ⟨N - 1, by omega⟩
      exact .step N' j s s1 s2 hl h1 (ih (by omega) ho N' (by omega))
  exact this k k s a h1 rfl ho N hk
end Go.Proofs.Ytccailcjclbhlaa

/-! A search by rounds: what settle does. Conditions: the object reads as AX says, the constants as AC says. -/
namespace Go.Proofs.Ytccailcjclbhlaa
open Go.RowKit
set_option linter.unusedSimpArgs false
set_option linter.unusedVariables false
/-- what is left of a drawn region, where it only reads -/
theorem wpAny_quiet_tail {P : Program} {ops : Array Oper} {Q : Exit → Act → World → Prop} {a : Act} {w : World} {listed : Array Bool} (k m : Nat) (hm : (ops.toList.drop k).length = m) (hs : Region.noSelect ops = true) (hB : Region.lexFrom .any ops m k listed = true)
    (h : wpQuiet P ops (fun w' => ∃ n, w' = w.drewN n) (fun a' => ∀ w', (∃ n, w' = w.drewN n) → Q .normal a' w') (ops.toList.drop k) a) : wpAny P .any ops Q m listed a w := by
  subst hm
  exact wpAny_of_quiet (Q := fun a' => ∀ w', (∃ n, w' = w.drewN n) → Q .normal a' w') (fun _ w' hw' h => h w' hw') _ _ _ _ ⟨0, rfl⟩ (wpAnyQ_lex hs _ k listed a (fun j => by rw [List.getElem?_drop, Array.getElem?_toList]) hB h)
/-- the same with the walk behind a variable (as text QuietH does for a whole region) -/
theorem wpAny_quiet_tail_hid {P : Program} {ops : Array Oper} {Q : Exit → Act → World → Prop} {a : Act} {w : World} {listed : Array Bool} (k m : Nat) (hm : (ops.toList.drop k).length = m) (hs : Region.noSelect ops = true) (hB : Region.lexFrom .any ops m k listed = true)
    (h : ∀ wq : (Act → Prop) → List Oper → Act → Prop,
      Hid (∀ (Q : Act → Prop) (o : Oper) (rest : List Oper) (a : Act), (∀ K : Act → Prop, Hid (∀ a, wq Q rest a → K a) → if Region.wanted o (yielded ops a.tmps) then o.quiet P a (fun w' => ∃ n, w' = w.drewN n) K else K (a.put o.dst undef)) → wq Q (o :: rest) a) →
      Hid (∀ (Q : Act → Prop) (a : Act), Q a → wq Q [] a) → wq (fun a' => ∀ w', (∃ n, w' = w.drewN n) → Q .normal a' w') (ops.toList.drop k) a) : wpAny P .any ops Q m listed a w :=
  wpAny_quiet_tail k m hm hs hB (h (wpQuiet P ops (fun w' => ∃ n, w' = w.drewN n)) (hide fun _ _ _ _ hs => wpQuiet_step fun K hK => hs K (hide hK)) (hide fun _ _ h => h))
/-- append of one element in a drawn region; where the new slice lies -/
theorem step_pushLA {α : Type} {enc : α → List Value} {sz : Nat} {e : TypeId} {w : World} {base : Nat} {v : Value} {xs : List α} {P : Program} {ops : Array Oper} {o : Oper} {a : Act} {K : Act → World → Prop} {Q : Exit → Act → World → Prop} {E : Prop} (hgd : o.guard = none) (s x : Operand) (t : TypeId)
    (ho : o.op = .call { callee := .builtin .append, args := #[s, x], argTypes := #[t, t] })
    (z : Value) (bytes : Nat) (ht : P.underlying t = some (.slice e)) (hinf : (P.info? e).map (fun i => (i.zero, i.size, i.bytes)) = some (some z, sz, bytes)) (hzs : z.cells.size = sz) (hsz : 0 < sz)
    (hlen : ∀ x, (enc x).length = sz) (hone : ∀ x, ∀ u ∈ enc x, u.oneCell' = true)
    (n : Nat) (hn : xs.length = n) (hs : a.eval s = v) (own : Own enc sz e w base v xs) (ad : Addr) (c : Nat) (y : α) (hx : a.eval x = .slice (some ad) 1 c)
    (hcells : ∀ j u, (enc y)[j]? = some u → w.cell? (ad.add j) = some u) (hbound : (n + 1) * bytes ≤ 140737488355328) (hmax : n + 1 ≤ maxLen) (hbase : base ≤ w.heap.size)
    (h : ∀ g c' w', Own enc sz e w' base (.slice (some ⟨g, 0, none⟩) (n + 1) c') (xs ++ [y]) → w.grownBy w' v.ownBlock → (v.ownBlock = some g ∨ g = w.heap.size) → g < w'.heap.size → K (a.put o.dst (.slice (some ⟨g, 0, none⟩) (n + 1) c')) w') :
    if Region.wanted o (yielded ops a.tmps) = true then Oper.wp P o a w K Q else E := by
  subst hn
  obtain ⟨i0, hi, hz0, hz1, hz2⟩ := info_parts hinf
  refine step_append_lies w hgd s x t ho base e i0 z sz bytes ht hi hz0 hz1 hz2 hzs hsz v xs.length (xs.flatMap enc) hs own ad 1 c (enc y) hx (by rw [hlen, Nat.one_mul]) hcells (hone y) (by omega) hmax hbound hbase w.heap.size rfl ?_
  intro g cap w' own' hg hat hlt
  have own2 : Own enc sz e w' base (.slice (some ⟨g, 0, none⟩) (xs.length + 1) cap) (xs ++ [y]) := by
    unfold Own
    rw [List.length_append, List.flatMap_append]
    simpa using own'
  exact h g cap w' own2 hg hat hlt
section
variable [AFr]
variable {n sb gc gp gd gh hc m wc el ec q qc t rc : Nat} {ha aw ae ar a0 : Option Addr} {ov : Value} {f : Nat → Ed} {ll lc : Nat} {al : Option Addr} {ls : List Nat} {ros : List RV} {h : Nat → Int} {ws : List P2} {es : List Ed} {s : AS} {wS w : World}
/-- the object, its heap and its late ones, in a state s of the plain machine; tp: what waits on top is the next -/
def ASt (n sb gc gp gd gh : Nat) (ev ov hv wv : Value) (tg : Int) (es : List Ed) (h : Nat → Int) (ws : List P2) (tp : Bool) (s : AS) (wS wr : World) : Prop :=
  ∃ a1 q1 c1 f1 al ll lc ls ar t rc ros, AX n sb gc gp gd gh ev ov hv wv tg (.slice a1 q1 c1) q1 f1 (.slice al ll lc) ls (.slice ar t rc) ros s wS wr ∧ t = s.told.length ∧ q1 ≤ 64 + eB es s.lk ∧ ll = ls.length ∧ ll ≤ 64 + eB es s.lk ∧ HeapOK plLt q1 f1 ∧ (∀ r, ws[s.told.length]? = some r → AHas r h n s (RW q1 f1)) ∧ LaL s ls ∧ (∀ v ∈ ls, v < n) ∧ (tp = true → ∀ r, ws[s.told.length]? = some r → 0 < q1 ∧ ∃ v, ANext r h n s v ∧ f1 0 = apl r h s v)
/-- what settle leaves -/
def SettleAns (n sb gc gp gd gh : Nat) (ev ov hv wv : Value) (tg : Nat) (es : List Ed) (h : Nat → Int) (ws : List P2) (s : AS) (wS : World) (e : Ending) (w' : World) : Prop :=
  e = .returned (.tuple #[]) ∧ ∃ s' sx, ASettle ws es h n tg s s' ∧ sx.told = s'.told ∧ sx.done = s'.done ∧ (s'.told.length < ws.length → sx = s') ∧ ASt n sb gc gp gd gh ev ov hv wv (tg : Int) es h ws true sx wS w'
set_option maxRecDepth 100000 in
set_option maxHeartbeats 4000000 in
theorem asettle_any (tgN : Nat) (htg : tgN < n) (hA : ASt n sb gc gp gd gh (.slice ae el ec) ov (.slice ha n hc) (.slice aw m wc) (tgN : Int) es h ws false s wS w) (hC : AC n sb gc gp gd gh hc m wc el ec ha aw ae h ws es wS) (hs : AOk n h s) (hd : s.done ≤ 100000) (hpl : (lastWay s).1.length ≤ 64) (htl : s.told.length ≤ m) :
    Calls Try.prog 29 #[.pointer (some ⟨sb, 0, none⟩)] w (SettleAns n sb gc gp gd gh (.slice ae el ec) ov (.slice ha n hc) (.slice aw m wc) tgN es h ws s wS) := by
  replace hC := hide hC
  replace hs := hide hs
  replace hA := hide hA
  replace hpl := hide hpl
  have hm := hide hC.out.wl
  have hEB := hide (fun lk => Nat.le_trans (eb_le es lk) (show es.length ≤ 600 by have := hC.out.es.2.2; omega))
  obtain ⟨bw, ow, rfl, hbw, -, -⟩ := hC.out.wr.p2 0 (by have := hm.out; omega)
  go_enter Try.func29, Try.ntmps29
  go_wp2
  go_loopg [] (m + 1) (fun gk wr => ∃ s1 sx, Hid (ASt n sb gc gp gd gh (.slice ae el ec) ov (.slice ha n hc) (.slice (some ⟨bw, ow, none⟩) m wc) (tgN : Int) es h ws false sx wS wr) ∧ Hid (sx.told = s1.told ∧ sx.done = s1.done ∧ (s1.told.length < ws.length → sx = s1)) ∧ Hid (AOk n h s1) ∧ s1.done ≤ 100000 ∧ Hid ((lastWay s1).1.length ≤ 64) ∧ Hid (∀ s', ASettle ws es h n tgN s1 s' → ASettle ws es h n tgN s s') ∧ m + 1 ≤ gk + s1.told.length ∧ s1.told.length ≤ m)
  case atStart => exact ⟨s, s, hA, hide ⟨rfl, rfl, fun _ => rfl⟩, hs, hd, hpl, hide (fun _ h => h), by omega, htl⟩
  case round =>
    clear hA hs hd hpl htl
    obtain ⟨s1, sx, hA1, hsx, hs1, hd1, hpl1, hset, hgk, htm⟩ := hrel
    obtain ⟨a1, q1, c1, f1, al, ll, lc, ls, ar, t, rc, ros, hX, ht, hq1, hll, hlQ, hok, hhs, hla, hln, -⟩ := hA1.out
    have c5 := hX.c5
    have c12 := hX.c12
    have ht1 : t = s1.told.length := by rw [ht, hsx.out.1]
    by_cases hov : t = m
    · have hov2 : ((t : Int) == (m : Int)) = true := by simp; omega
      replace hX := hide hX
      clear hC
      go_wp2_with fail
      refine (aover_any sb t rc m wc ar _ _ c12 c5).mono ?_
      rintro e w2 ⟨rfl, kk, rfl⟩
      rw [hov2]
      have hX2 := hide (hX.out.stays (up_drewN (n := kk) (Below.refl _ _)))
      clear c5 c12 hX
      generalize wr.drewN kk = w2 at hX2 ⊢
      go_wp2
      go_end0
      exact ⟨rfl, s1, sx, hset.out _ (ASettle.over s1 (by have := hm.out; omega)), hsx.out.1, hsx.out.2.1, hsx.out.2.2, a1, q1, c1, f1, al, ll, lc, ls, ar, t, rc, ros, hX2.out, ht, hq1, hll, hlQ, hok, hhs, hla, hln, fun _ r hr => absurd (List.getElem?_eq_some_iff.1 hr).1 (by have := hm.out; omega)⟩
    · have hov2 : ((t : Int) == (m : Int)) = false := by simp; omega
      obtain rfl : sx = s1 := hsx.out.2.2 (by have := hm.out; omega)
      replace hX := hide hX
      replace hok := hide hok
      replace hla := hide hla
      replace hln := hide hln
      replace hll := hide hll
      replace ht := hide ht
      clear hA1 hsx ht1
      go_wp2_with fail
      refine (aover_any sb t rc m wc ar _ _ c12 c5).mono ?_
      rintro e w2 ⟨rfl, kk, rfl⟩
      rw [hov2]
      obtain ⟨r, hr⟩ : ∃ r, ws[t]? = some r := ⟨ws[t]'(by have := hm.out; have := ht.out; omega), List.getElem?_eq_getElem _⟩
      have hX2 := hide (hX.out.stays (up_drewN (n := kk) (Below.refl _ _)))
      replace hhs := hide (hhs r (by rw [← ht.out]; exact hr))
      clear c5 c12 hX hov2
      generalize wr.drewN kk = w2 at hX2 ⊢
      go_upto_region 1 with fail
      have hcb := hide (show ∀ v, sx.cost v = FAR ∨ (0 ≤ sx.cost v ∧ sx.cost v ≤ 1000000000) from fun v => by rcases hs1.out.cb v with h1 | h1 <;> omega)
      have hwk := hide (fun v hv => (hs1.out.wt v hv).2)
      have hFr := hide (afresh_any r hr (hX2.out.stays (below_drew w2)) hC.out (by have := hEB.out sx.lk; omega) hcb.out hwk.out hok.out hhs.out)
      replace hr := hide hr
      refine wp_region_any (by kernel_rfl) ?_
      change wpAny _ _ _ _ (29 + 1) _ _ _
      refine wpAny_ready (rs := [0]) (by kernel_rfl) (by simp) (AllReady.cons rfl (fun K hK => ?_) AllReady.nil)
      go_simp
      refine hK _ _ ?_
      clear hK K
      change wpAny _ _ _ _ (28 + 1) _ _ _
      refine wpAny_ready (rs := [1]) (by kernel_rfl) (by simp) (AllReady.cons rfl (fun K hK => ?_) AllReady.nil)
      go_simp
      go_at_call 46
      refine hFr.out.mono ?_
      rintro e w3 ⟨b, a3, q3, c3, f3, rfl, hX3, hq3, hok3, hh3, hbt, hbf⟩
      refine hK _ _ ?_
      clear hK K
      change wpAny _ _ _ _ (27 + 1) _ _ _
      refine wpAny_ready (rs := [2]) (by kernel_rfl) (by simp) (AllReady.cons rfl (fun K hK => ?_) AllReady.nil)
      go_simp
      refine hK _ _ ?_
      clear hK K
      clear hX2 hok hhs hFr
      replace hok3 := hide hok3
      replace hh3 := hide hh3
      cases b
      case' false =>
        have hnl := hide (show ¬ Left r h n tgN sx from left_none (by have e := hbf rfl; subst e; exact ahas_none hh3.out))
        have hX9 := hide (fun nq => hX3.stays (up_drewN (n := nq) (Below.refl _ _)))
        clear hbt hbf hX3
        refine wpAny_quiet_tail_hid 3 27 (by kernel_rfl) (by kernel_rfl) (by kernel_rfl) (fun wq hst hni => ?_)
        simp only [List.drop_succ_cons, List.drop_zero]
        repeat (refine hst.out _ _ _ _ (fun K hK => ?_); go_simp; refine hK.out _ ?_; clear hK K)
        refine hni.out _ _ ?_
        clear hst hni wq
        intro _ hw'
        obtain ⟨nq, hw''⟩ := hw'
        subst hw''
        replace hX9 := hide (hX9.out nq)
        generalize w3.drewN nq = w9 at hX9 ⊢
        go_upto_region 2 with fail
      case' true =>
        obtain ⟨hq0, v, hnv, hf0⟩ := hbt rfl
        have hlt := hide (left_top (tg := tgN) hnv)
        have htop := hide (show 0 < q3 ∧ ∃ v, ANext r h n sx v ∧ f3 0 = apl r h sx v from ⟨hq0, v, hnv, hf0⟩)
        have hX3 := hide hX3
        have e6 := hX3.out.c6
        have e3 := hX3.out.c3
        have eC := hX3.out.cost.atI tgN htg
        have itg : (0 : Int) ≤ (tgN : Int) ∧ (tgN : Int) < (n : Int) := by omega
        obtain ⟨x, hx⟩ : ∃ x, x = sx.cost tgN := ⟨_, rfl⟩
        rw [← hx] at eC
        replace hx := hide hx
        clear hbt hbf
        by_cases hfar : x = 1099511627776
        · subst hfar
          have hfin := hide (hset.out _ (ASettle.left sx r (by rw [← ht.out]; exact hr.out) (hlt.out.2 (.inl (by rw [← hx.out]; unfold FAR; omega)))))
          clear hlt hnv hf0 hset
          refine wpAny_quiet_tail_hid 3 27 (by kernel_rfl) (by kernel_rfl) (by kernel_rfl) (fun wq hst hni => ?_)
          simp only [List.drop_succ_cons, List.drop_zero]
          repeat (refine hst.out _ _ _ _ (fun K hK => ?_); go_simp; first | (refine hK.out _ ?_; clear hK K) | (apply Exists.intro; refine ⟨fun _ => ?_, hK.out _ ?_⟩; (fail); clear hK K))
          refine hni.out _ _ ?_
          clear hst hni wq
          intro _ hw'
          obtain ⟨nq, hw''⟩ := hw'
          subst hw''
          have hX9 := hide (hX3.out.stays (up_drewN (n := nq) (Below.refl _ _)))
          go_wp2
          ((try simp only [Exit.inBlock, Exit.then]); refine bodyPost_ret (results_none rfl _ _ _) rfl ?_)
          exact ⟨rfl, sx, sx, hfin.out, rfl, rfl, fun _ => rfl, a3, q3, c3, f3, al, ll, lc, ls, ar, t, rc, ros, hX9.out, ht.out, by omega, hll.out, hlQ, hok3.out, fun r2 hr2 => (by have e : r2 = r := (by rw [← ht.out, hr.out] at hr2; exact (Option.some.inj hr2).symm); rw [e]; exact hh3.out), hla.out, hln.out, fun _ r2 hr2 => (by have e : r2 = r := (by rw [← ht.out, hr.out] at hr2; exact (Option.some.inj hr2).symm); rw [e]; exact htop.out)⟩
        have hcx := hcb.out tgN
        have hcv : sx.cost v < FAR := (hs1.out.wt v hnv.1.2).1
        have hcv2 := hcb.out v
        obtain ⟨q', rfl⟩ : ∃ q', q3 = q' + 1 := ⟨q3 - 1, by omega⟩
        obtain ⟨gs, rfl, hgs1, hgs2⟩ := hX3.out.heap.own.blockI' (by omega)
        have hTop := hide (fun (w' : World) (hb : Below w3.heap.size w3 w') => topT_any gh gh q' gs c3 f3 _ w' (hX3.out.stays hb).heap)
        have hKy := hide (fun (w' : World) (hb : Below w3.heap.size w3 w') => akey_any tgN r hr.out (hX3.out.stays hb) hC.out htg (by rw [← hx.out] at *; unfold FAR at *; omega) (by rw [← hx.out] at *; unfold FAR at *; omega))
        rw [hf0] at hTop
        obtain ⟨kv, hkv⟩ : ∃ k, k = akey r h sx v := ⟨_, rfl⟩
        obtain ⟨kt, hkt⟩ : ∃ k, k = akey r h sx tgN := ⟨_, rfl⟩
        have hap : apl r h sx v = ⟨kv, h v, (v : Int)⟩ := by rw [hkv]; rfl
        rw [hap] at hTop
        rw [← hkt] at hKy
        rw [← hkv, ← hkt] at hlt
        obtain ⟨hv9, hhv9⟩ : ∃ k, k = h v := ⟨_, rfl⟩
        rw [← hhv9] at hTop
        have d9 := hX3.out.c9
        have d10 := hX3.out.c10
        have key0 := hide (show ∀ w', Below w3.heap.size w3 w' → (fun w' => Below w3.heap.size w3 w' ∧ w'.cell? ⟨sb, 3, none⟩ = some (.int .i64 (tgN : Int)) ∧ w'.cell? ⟨sb, 6, none⟩ = some (.slice (some ⟨gc, 0, none⟩) n n) ∧ w'.cell? ⟨sb, 10, none⟩ = some (.pointer (some ⟨gh, 0, none⟩)) ∧ w'.cell? ⟨gc, tgN, none⟩ = some (.int .i64 x)) w' from fun w' hb =>
          ⟨hb, cu_below hb e3 (cell_lt e3), cu_below hb e6 (cell_lt e6), cu_below hb d10 (cell_lt d10), cu_below hb eC (cell_lt eC)⟩)
        have hxx := hide hx.out
        replace hhv9 := hide hhv9
        replace hkv := hide hkv
        replace hkt := hide hkt
        have hxf : (x == 1099511627776) = false := by simpa using hfar
        have hfld := fun W : World => (show (Instr.field 92 (.agg #[.int .i64 kv, .int .i64 hv9, .int .i64 (v : Int)]) 0).run Try.prog W = .ok (.int .i64 kv) W by kernel_rfl)
        clear hnv hf0 hap e6 e3 eC d9 d10 hcx hcv hcv2 hgs1 hgs2
        refine wpAny_of_held (S := fun w' => Below w3.heap.size w3 w' ∧ w'.cell? ⟨sb, 3, none⟩ = some (.int .i64 (tgN : Int)) ∧ w'.cell? ⟨sb, 6, none⟩ = some (.slice (some ⟨gc, 0, none⟩) n n) ∧ w'.cell? ⟨sb, 10, none⟩ = some (.pointer (some ⟨gh, 0, none⟩)) ∧ w'.cell? ⟨gc, tgN, none⟩ = some (.int .i64 x)) _ _ _ _ ?_
        have hHeld : (fun w' => Below w3.heap.size w3 w' ∧ w'.cell? ⟨sb, 3, none⟩ = some (.int .i64 (tgN : Int)) ∧ w'.cell? ⟨sb, 6, none⟩ = some (.slice (some ⟨gc, 0, none⟩) n n) ∧ w'.cell? ⟨sb, 10, none⟩ = some (.pointer (some ⟨gh, 0, none⟩)) ∧ w'.cell? ⟨gc, tgN, none⟩ = some (.int .i64 x)) _ := key0.out _ (Below.refl _ _)
        (try dsimp only at hHeld)
        refine planH [3, 4, 5, 6, 7, 8, 9, 10, 11, 12, 13, 14, 15, 16, 17, 18, 21, 22, 23, 24, 25] ?_
        iterate 21
          refine PlanH.take (v := ?_) (List.getElem?_toArray.trans rfl) (by kernel_rfl) (fun _ _ _ h => h) (Or.inl ⟨by rfl, ?_⟩) hHeld ?_
          rotate_left
          · intro w hSw; (try dsimp only at hSw); go_simp; (try with_reducible rfl)
          try simp only [Act.put, List.setIfInBounds_toArray, List.set_cons_zero, List.set_cons_succ]
        refine wpAnyH_ready (rs := [19]) (by kernel_rfl) (by simp) (AllReadyH.cons (List.getElem?_toArray.trans rfl) (fun K hK => ?_) AllReadyH.nil)
        (go_simp; refine (hTop.out _ hHeld.1).mono ?_; rintro e w4 ⟨rfl, hb4⟩)
        have hHeld := key0.out _ (below_step hHeld.1 hb4)
        refine hK.out _ _ hHeld (fun _ => ?_)
        clear hK K; try simp only [Act.put, List.setIfInBounds_toArray, List.set_cons_zero, List.set_cons_succ]
        refine planH [20] ?_
        iterate 1
          refine PlanH.take (v := ?_) (List.getElem?_toArray.trans rfl) (by kernel_rfl) (fun _ _ _ h => h) (Or.inl ⟨by rfl, ?_⟩) hHeld ?_
          rotate_left
          · intro w hSw; (try dsimp only at hSw); go_simp; (try with_reducible rfl)
          try simp only [Act.put, List.setIfInBounds_toArray, List.set_cons_zero, List.set_cons_succ]
        refine wpAnyH_ready (rs := [26]) (by kernel_rfl) (by simp) (AllReadyH.cons (List.getElem?_toArray.trans rfl) (fun K hK => ?_) AllReadyH.nil)
        (go_simp; refine (hKy.out _ hHeld.1).mono ?_; rintro e w5 ⟨rfl, hb5⟩)
        have hHeld := key0.out _ (below_step hHeld.1 hb5)
        refine hK.out _ _ hHeld (fun _ => ?_)
        clear hK K; try simp only [Act.put, List.setIfInBounds_toArray, List.set_cons_zero, List.set_cons_succ]
        refine planH [27, 28, 29] ?_
        iterate 3
          refine PlanH.take (v := ?_) (List.getElem?_toArray.trans rfl) (by kernel_rfl) (fun _ _ _ h => h) (Or.inl ⟨by rfl, ?_⟩) hHeld ?_
          rotate_left
          · intro w hSw; (try dsimp only at hSw); go_simp; (try with_reducible rfl)
          try simp only [Act.put, List.setIfInBounds_toArray, List.set_cons_zero, List.set_cons_succ]
        refine wpAnyH_done (by kernel_rfl) ?_ _
        have hX9 := hide (hX3.out.stays hHeld.1)
        clear hHeld key0 hTop hKy hX3
        by_cases hlt2 : kv < kt
        · have hfin := hide (hset.out _ (ASettle.left sx r (by rw [← ht.out]; exact hr.out) (hlt.out.2 (.inr hlt2))))
          clear hlt hset
          go_wp2
          ((try simp only [Exit.inBlock, Exit.then]); refine bodyPost_ret (results_none rfl _ _ _) rfl ?_)
          exact ⟨rfl, sx, sx, hfin.out, rfl, rfl, fun _ => rfl, _, _, c3, f3, al, ll, lc, ls, ar, t, rc, ros, hX9.out, ht.out, by omega, hll.out, hlQ, hok3.out, fun r2 hr2 => (by have e : r2 = r := (by rw [← ht.out, hr.out] at hr2; exact (Option.some.inj hr2).symm); rw [e]; exact hh3.out), hla.out, hln.out, fun _ r2 hr2 => (by have e : r2 = r := (by rw [← ht.out, hr.out] at hr2; exact (Option.some.inj hr2).symm); rw [e]; exact htop.out)⟩
        have hnl := hide (show ¬ Left r h n tgN sx from fun hc => by
          rcases hlt.out.1 hc with h1 | h1
          · exact h1 (by rw [← hx.out]; have := hcb.out tgN; rw [← hx.out] at this; unfold FAR at *; omega)
          · exact hlt2 h1)
        clear hlt
        generalize w5 = w9 at hX9 ⊢
        go_upto_region 2 with fail
      all_goals
        have htt := ht.out
        have hmm := hm.out
        have htm2 : t < m := by omega
        have hm8 : m ≤ 8 := hmm.2.2
        have hros : ros.length = t := by rw [hX9.out.told.1]; exact htt.symm
        obtain ⟨bw2, ow2, ew, hbw2, r0, r1⟩ := (row_keep hC.out.wr hX9.out.keep hC.out.wx).p2 t (by omega)
        cases ew
        rw [(show ws[t]'(by omega) = r from (List.getElem?_eq_some_iff.1 hr.out).2)] at r0 r1
        obtain ⟨ra, hra⟩ : ∃ x, x = r.a := ⟨_, rfl⟩
        obtain ⟨rb, hrb⟩ : ∃ x, x = r.b := ⟨_, rfl⟩
        obtain ⟨D, hD⟩ : ∃ x, x = sx.done := ⟨_, rfl⟩
        rw [← hra] at r0
        rw [← hrb] at r1
        have k5 := hX9.out.c5
        have k11 := hX9.out.c11
        rw [← hD] at k11
        have k12 := hX9.out.c12
        have kf := hX9.out.fz 12
        have hnsb : (Value.slice ar t rc).ownBlock ≠ some sb := fun e => by have := (hX9.out.rnds.block_lt _ e).1; have := hX9.out.lt.1; omega
        have hnbw : (Value.slice ar t rc).ownBlock ≠ some bw := fun e => by have := (hX9.out.rnds.block_lt _ e).1; omega
        have hKey := hide (show ∀ w', Keep (fun j => (Value.slice ar t rc).ownBlock = some j) w9 w' → (w'.cell? ⟨sb, 12, none⟩ = some (.slice ar t rc) ∧ w'.cell? ⟨sb, 5, none⟩ = some (.slice (some ⟨bw, ow, none⟩) m wc) ∧ w'.cell? ⟨sb, 11, none⟩ = some (.int .i64 (D : Int)) ∧ w'.cell? ⟨bw, ow + t * 2, none⟩ = some (.int .i64 ra) ∧ w'.cell? ⟨bw, ow + t * 2 + 1, none⟩ = some (.int .i64 rb) ∧ w'.frozen? ⟨sb, 12, none⟩ = false) from fun w' kp =>
          ⟨kp.cu k12 hnsb, kp.cu k5 hnsb, kp.cu k11 hnsb, kp.cu r0 hnbw, kp.cu r1 hnbw, (kp.frozen (p := ⟨sb, 12, none⟩) (show sb < _ from cell_lt k12) hnsb).trans kf⟩)
        have hBest := hide (abest_any tgN htg (hX9.out.stays (below_drew w9)) hC.out htt (by omega) (by have := hpl1.out; omega) (hcb.out tgN) (fun hF => away hs1.out htg hF))
        have hz9 := hX9.out.big
        have itt : (0 : Int) ≤ (t : Int) ∧ (t : Int) < (m : Int) := by omega
        replace hra := hide hra
        replace hrb := hide hrb
        replace hD := hide hD
        replace hros := hide hros
        clear r0 r1 k5 k11 k12 kf hmm htt hbw2
        refine wp_region_end (S := (fun w' => w'.cell? ⟨sb, 12, none⟩ = some (.slice ar t rc) ∧ w'.cell? ⟨sb, 5, none⟩ = some (.slice (some ⟨bw, ow, none⟩) m wc) ∧ w'.cell? ⟨sb, 11, none⟩ = some (.int .i64 (D : Int)) ∧ w'.cell? ⟨bw, ow + t * 2, none⟩ = some (.int .i64 ra) ∧ w'.cell? ⟨bw, ow + t * 2 + 1, none⟩ = some (.int .i64 rb) ∧ w'.frozen? ⟨sb, 12, none⟩ = false)) (t := 27) (by kernel_rfl) ?_ (fun hHeld hInv => ?_)
        · exact hKey.out _ (Keep.new (below_drew w9))
        replace hInv := hide hInv
        refine planE [0, 1, 2, 3, 4, 5, 6, 7, 8, 9, 10, 11, 12, 13, 14, 15, 16, 17, 18, 19, 20] ?_
        iterate 21
          refine PlanE.take (v := ?_) (List.getElem?_toArray.trans rfl) (by kernel_rfl) (fun _ _ _ h => h) (Or.inl ⟨by rfl, ?_⟩) hInv.out (by assumption) (fun hInv' => ?_)
          rotate_left
          · intro w hSw; (try dsimp only at hSw); go_simp; (try with_reducible rfl)
          replace hInv := hide hInv'; clear hInv'; try simp only [Act.put, List.setIfInBounds_toArray, List.set_cons_zero, List.set_cons_succ]
        refine wpAnyE_one (i := 21) (List.getElem?_toArray.trans rfl) (by kernel_rfl) (fun K hK => ?_) hInv.out
        (go_simp; refine hBest.out.mono ?_; rintro e w4 ⟨av, p, pn, pc, rfl, hpn, hAB, hOw, hb4⟩; replace hAB := hide hAB; replace hpn := hide hpn; replace hOw := hide hOw; replace hb4 := hide (show Below w9.heap.size w9 w4 from (below_drew w9).trans hb4))
        have hHeld := hKey.out _ (Keep.new hb4.out)
        refine hK.out _ _ (fun _ => hHeld) (fun hInv' => ?_)
        clear hK K; replace hInv := hide (hInv' (by decide)); clear hInv'; try simp only [Act.put, List.setIfInBounds_toArray, List.set_cons_zero, List.set_cons_succ]
        refine planE [22] ?_
        iterate 1
          refine PlanE.take (v := ?_) (List.getElem?_toArray.trans rfl) (by kernel_rfl) (fun _ _ _ h => h) (Or.inl ⟨by rfl, ?_⟩) hInv.out (by assumption) (fun hInv' => ?_)
          rotate_left
          · intro w hSw; (try dsimp only at hSw); go_simp; (try with_reducible rfl)
          replace hInv := hide hInv'; clear hInv'; try simp only [Act.put, List.setIfInBounds_toArray, List.set_cons_zero, List.set_cons_succ]
        refine wpAnyE_one (i := 23) (List.getElem?_toArray.trans rfl) (by kernel_rfl) (fun K hK => ?_) hInv.out
        (go_simp)
        have hHeld := hKey.out _ (Keep.new (up_alloc (o := .cells #[.int .i64 ra, .int .i64 rb, .slice av pn pc, .int .i64 p.2, .int .i64 (D : Int)] 53) hb4.out hb4.out.size))
        refine hK.out _ _ (fun _ => hHeld) (fun hInv' => ?_)
        clear hK K; replace hInv := hide (hInv' (by decide)); clear hInv'; try simp only [Act.put, List.setIfInBounds_toArray, List.set_cons_zero, List.set_cons_succ]
        refine wpAnyE_one (i := 24) (List.getElem?_toArray.trans rfl) (by kernel_rfl) (fun K hK => ?_) hInv.out
        (refine step_pushLA (base := wS.heap.size) (e := 53) (enc := encR) (xs := ros) (v := .slice ar t rc) rfl (.tmp 39) (.tmp 58) 45 rfl _ 56 Try.underlying45 info_round rfl ?p1 lenR oneR t hros.out rfl ((hX9.out.stays (up_alloc (o := .cells #[.int .i64 ra, .int .i64 rb, .slice av pn pc, .int .i64 p.2, .int .i64 (D : Int)] 53) hb4.out hb4.out.size)).rnds) ⟨w4.heap.size, 0, none⟩ 1 ⟨ra, rb, av, pn, pc, p.2, (D : Int)⟩ rfl ?p2 ?p3 ?p4 ?p5 ?_; (case p1 => omega); (case p2 => exact newR _ _ _ _ rfl); (case p3 => omega); (case p4 => unfold maxLen; omega); (case p5 => exact (hX9.out.stays (up_alloc (o := .cells #[.int .i64 ra, .int .i64 rb, .slice av pn pc, .int .i64 p.2, .int .i64 (D : Int)] 53) hb4.out hb4.out.size)).big); intro g6 c6 w6 own6 hgr6 hat6 hlt6; have kp6 := Keep.grown (S := fun j => (Value.slice ar t rc).ownBlock = some j) (Keep.refl _ _) hgr6 (fun j hj => .inl hj))
        have hHeld := hKey.out _ ((Keep.new (up_alloc (o := .cells #[.int .i64 ra, .int .i64 rb, .slice av pn pc, .int .i64 p.2, .int .i64 (D : Int)] 53) hb4.out hb4.out.size)).trans kp6)
        refine hK.out _ _ (fun _ => hHeld) (fun hInv' => ?_)
        clear hK K; replace hInv := hide (hInv' (by decide)); clear hInv'; try simp only [Act.put, List.setIfInBounds_toArray, List.set_cons_zero, List.set_cons_succ]
        refine planE [25, 26] ?_
        iterate 2
          refine PlanE.take (v := ?_) (List.getElem?_toArray.trans rfl) (by kernel_rfl) (fun _ _ _ h => h) (Or.inl ⟨by rfl, ?_⟩) hInv.out (by assumption) (fun hInv' => ?_)
          rotate_left
          · intro w hSw; (try dsimp only at hSw); go_simp; (try with_reducible rfl)
          replace hInv := hide hInv'; clear hInv'; try simp only [Act.put, List.setIfInBounds_toArray, List.set_cons_zero, List.set_cons_succ]
        refine wpAnyE_one (i := 27) (List.getElem?_toArray.trans rfl) (by kernel_rfl) (fun K hK => ?_) hInv.out
        (try dsimp only at hHeld); go_simp
        refine hK.out _ _ (fun h => absurd rfl h) (fun _ => ?_)
        clear hK K hInv; try simp only [Act.put, List.setIfInBounds_toArray, List.set_cons_zero, List.set_cons_succ]
        refine wpAnyE_done (by kernel_rfl) ?_ _
        have hX10 := hide ((hX9.out.stays (up_alloc (o := .cells #[.int .i64 ra, .int .i64 rb, .slice av pn pc, .int .i64 p.2, .int .i64 (D : Int)] 53) hb4.out hb4.out.size)).setR (t := ⟨r.a, r.b, p.1, p.2, sx.done⟩) ⟨hra.out, hrb.out, rfl, congrArg _ hD.out, hpn.out, (hOw.out.alloc _).base_le hz9⟩ (fun j hj => by
          have hj2 := (hOw.out.block_lt j hj).1
          have hj3 : w9.heap.size ≤ j := hj2
          refine ⟨fun e => ?_, fun e => ?_, fun e => ?_, hX9.out.nf.noF hj3⟩
          · have := (hX9.out.heap.own.block_lt _ e).2; omega
          · have := (hX9.out.late.block_lt _ e).2; omega
          · have := (hX9.out.rnds.block_lt _ e).2; omega) kp6 own6 (fun j hj => by
          simp only [Value.ownBlock, Option.some.injEq] at hj
          subst hj
          exact hat6.imp id (fun e => Nat.le_of_eq e.symm)))
        generalize w6.setCell ⟨sb, 12, none⟩ (.slice (some ⟨g6, 0, none⟩) (t + 1) c6) = w7 at hX10 ⊢
        have hset2 := hide (fun s' (hh : ASettle ws es h n tgN (atell r p sx) s') => hset.out s' (ASettle.tell sx s' r p (by rw [← ht.out]; exact hr.out) hnl.out hAB.out hh))
        have hs2 := hide (aok_tell hs1.out r p)
        have hpl2 := hide (show (lastWay (atell r p sx)).1.length ≤ 64 by rw [lastWay_tell]; exact abest_len hs1.out htg (by have := hC.out.hn; omega) hAB.out hpl1.out)
        have htl2 := hide (show t + 1 = (sx.told ++ [(⟨r.a, r.b, p.1, p.2, sx.done⟩ : RD)]).length by rw [List.length_append, ← ht.out]; rfl)
        have hgk2 : m + 1 ≤ gk - 1 + (t + 1) := by have := ht.out; omega
        clear kp6 own6 hgr6 hat6 hlt6 hOw hb4 hHeld hKey hBest hX9 hset
        have k12 := hX10.out.c12
        have k5 := hX10.out.c5
        have hEn := hEB.out sx.lk
        by_cases hov3 : t + 1 = m
        · have hov4 : (((t + 1 : Nat) : Int) == (m : Int)) = true := by simp; omega
          go_wp2_with fail
          refine (aover_any sb (t + 1) c6 m wc _ _ _ k12 k5).mono ?_
          rintro e w11 ⟨rfl, kk, rfl⟩
          rw [hov4]
          have hX11 := hide (hX10.out.stays (up_drewN (n := kk) (Below.refl _ _)))
          clear k12 k5 hX10
          generalize w7.drewN kk = w11 at hX11 ⊢
          go_wp2
          go_roundg (gk - 1)
          case measure => omega
          case rel => exact ⟨atell r p sx, { sx with told := sx.told ++ [⟨r.a, r.b, p.1, p.2, sx.done⟩] }, hide ⟨_, _, c3, f3, al, ll, lc, ls, _, t + 1, c6, _, hX11.out, htl2.out, (by show _ ≤ 64 + eB es sx.lk; omega), hll.out, hlQ, hok3.out, (fun r2 hr2 => absurd (List.getElem?_eq_some_iff.1 hr2).1 (by show ¬ (sx.told ++ [_]).length < _; rw [← htl2.out]; have := hm.out; omega)), hla.out, hln.out, (fun e => by cases e)⟩, hide ⟨rfl, rfl, fun hc => absurd hc (by show ¬ (sx.told ++ [_]).length < _; rw [← htl2.out]; have := hm.out; omega)⟩, hs2, hd1, hpl2, hset2, (by show m + 1 ≤ gk - 1 + (sx.told ++ [_]).length; rw [← htl2.out]; exact hgk2), (by show (sx.told ++ [_]).length ≤ m; rw [← htl2.out]; omega)⟩
        · have hov4 : (((t + 1 : Nat) : Int) == (m : Int)) = false := by simp; omega
          go_wp2_with fail
          refine (aover_any sb (t + 1) c6 m wc _ _ _ k12 k5).mono ?_
          rintro e w11 ⟨rfl, kk, rfl⟩
          rw [hov4]
          have hX11 := hide (hX10.out.stays (up_drewN (n := kk) (Below.refl _ _)))
          clear k12 k5 hX10
          generalize w7.drewN kk = w11 at hX11 ⊢
          obtain ⟨r2, hr2⟩ : ∃ r2, ws[t + 1]? = some r2 := ⟨ws[t + 1]'(by have := hm.out; omega), List.getElem?_eq_getElem _⟩
          have hAg := hide (aagain_any r r2 hr2 hX11.out hC.out (by omega) hll.out (by omega) hcb.out hwk.out hok3.out ⟨hh3.out.ent, hh3.out.has⟩ hla.out hln.out (fun v hv => (hs2.out.wt v hv).1))
          replace hr2 := hide hr2
          clear hX11
          go_wp2_with fail
          refine hAg.out.mono ?_
          rintro e w12 ⟨rfl, a12, q12, c12, f12, hX12, hq12, hok12, hh12⟩
          replace hX12 := hide hX12
          replace hok12 := hide hok12
          replace hh12 := hide hh12
          go_wp2
          go_roundg (gk - 1)
          case measure => omega
          case rel => exact ⟨atell r p sx, atell r p sx, hide ⟨a12, q12, c12, f12, none, 0, 0, [], _, t + 1, c6, _, hX12.out, htl2.out, (by have := hC.out.hn; omega), rfl, (by omega), hok12.out, (fun r3 hr3 => (by
            have e3 : (atell r p sx).told.length = t + 1 := htl2.out.symm
            rw [e3, hr2.out] at hr3
            cases hr3
            exact hh12.out)), (fun v => by simp [atell]), (fun v hv => by cases hv), (fun e => by cases e)⟩, hide ⟨rfl, rfl, fun _ => rfl⟩, hs2, hd1, hpl2, hset2, (by show m + 1 ≤ gk - 1 + (sx.told ++ [_]).length; rw [← htl2.out]; exact hgk2), (by show (sx.told ++ [_]).length ≤ m; rw [← htl2.out]; omega)⟩
end
end Go.Proofs.Ytccailcjclbhlaa

/-! A search by rounds: what Step does. Conditions: the object reads as AX says, the constants as AC says, the table of the edges from each place stands beside it. -/
namespace Go.Proofs.Ytccailcjclbhlaa
open Go.RowKit
set_option linter.unusedSimpArgs false
set_option linter.unusedVariables false
section
variable [AFr]
variable {n sb gc gp gd gh hc m wc el ec : Nat} {ha aw ae : Option Addr} {h : Nat → Int} {ws : List P2} {es : List Ed} {s : AS} {wS w : World}
/-- the object, between two calls, in a state s of the plain machine -/
def AHeld (n sb gc gp gd gh : Nat) (ev ov hv wv : Value) (tg : Int) (es : List Ed) (h : Nat → Int) (ws : List P2) (s : AS) (wS wr : World) : Prop :=
  ∃ sx, sx.told = s.told ∧ sx.done = s.done ∧ (s.told.length < ws.length → sx = s) ∧ ASt n sb gc gp gd gh ev ov hv wv tg es h ws true sx wS wr
/-- what Step leaves -/
def StepAns (n sb gc gp gd gh : Nat) (ev ov hv wv : Value) (tg : Nat) (es : List Ed) (h : Nat → Int) (ws : List P2) (N : Nat) (s : AS) (wS : World) (e : Ending) (w' : World) : Prop :=
  ∃ (k : Nat) (s' : AS), e = .returned (.int .i64 (k : Int)) ∧ ASteps ws es h n tg N s k s' ∧ AHeld n sb gc gp gd gh ev ov hv wv (tg : Int) es h ws s' wS w' ∧ AInv n h s' ∧ s'.told.length ≤ ws.length
set_option maxRecDepth 100000 in
set_option maxHeartbeats 4000000 in
theorem astep_any (tgN O lo hi : Nat) (htg : tgN < n) (nn : Int) (hnn : nn ≤ 9223372036854775807) (hA : AHeld n sb gc gp gd gh (.slice ae el ec) (.slice (some ⟨O, 0, none⟩) n n) (.slice ha n hc) (.slice aw m wc) (tgN : Int) es h ws s wS w) (hC : AC n sb gc gp gd gh hc m wc el ec ha aw ae h ws es wS)
    (hOu : OutsAt wS lo hi O n es) (hdis : ∀ k, lo ≤ k → k < hi → ¬ AXb sb gc gp gd gh k) (hs : AInv n h s) (htl : s.told.length ≤ m) :
    Calls Try.prog 20 #[.pointer (some ⟨sb, 0, none⟩), .int .i64 nn] w (StepAns n sb gc gp gd gh (.slice ae el ec) (.slice (some ⟨O, 0, none⟩) n n) (.slice ha n hc) (.slice aw m wc) tgN es h ws nn.toNat s wS) := by
  replace hC := hide hC
  replace hs := hide hs
  replace hA := hide hA
  replace hOu := hide hOu
  replace hdis := hide hdis
  have hm := hide hC.out.wl
  have hEd := hide hC.out.es
  have hn64 := hC.out.hn
  have hEB := hide (fun lk => Nat.le_trans (eb_le es lk) (show es.length ≤ 600 by have := hC.out.es.2.2; omega))
  have hst0 := hide (ASteps.zero (ws := ws) (es := es) (h := h) (n := n) (tg := tgN) s)
  go_enter Try.func20, Try.ntmps20
  go_wp2
  go_loopg [5] (64 * m + 2) (fun gk s5 wr => ∃ (k : Nat) (s1 : AS), s5 = .int .i64 (k : Int) ∧ ((k : Int) ≤ nn ∨ k = 0) ∧ Hid (AHeld n sb gc gp gd gh (.slice ae el ec) (.slice (some ⟨O, 0, none⟩) n n) (.slice ha n hc) (.slice aw m wc) (tgN : Int) es h ws s1 wS wr) ∧ Hid (AInv n h s1) ∧ s1.told.length ≤ m ∧ Hid (ASteps ws es h n tgN k s k s1) ∧ 64 * m + 2 ≤ gk + s1.done)
  case atStart => exact ⟨0, s, rfl, .inr rfl, hA, hs, htl, hst0, by omega⟩
  case round =>
    clear hA hs htl hst0
    obtain ⟨k, s1, rfl, hk, hA1, hs1, htm, hst, hgk⟩ := hrel
    by_cases hkn : (k : Int) < nn
    · obtain ⟨sx, hsx1, hsx2, hsx3, a1, q1, c1, f1, al, ll, lc, ls, ar, t, rc, ros, hX, ht, hq1, hll, hlQ, hok, hhs, hla, hln, htop⟩ := hA1.out
      have c5 := hX.c5
      have c12 := hX.c12
      have ht1 : t = s1.told.length := by rw [ht, hsx1]
      replace hX := hide hX
      by_cases hov : t = m
      · have hov2 : ((t : Int) == (m : Int)) = true := by simp; omega
        have hfin := hide (show ASteps ws es h n tgN nn.toNat s k s1 from asteps_over (N := nn.toNat) hst.out (by omega) (by have := hm.out; omega))
        have hfin2 := hide (fun w' (hX2 : AX n sb gc gp gd gh (.slice ae el ec) (.slice (some ⟨O, 0, none⟩) n n) (.slice ha n hc) (.slice aw m wc) (tgN : Int) (.slice a1 q1 c1) q1 f1 (.slice al ll lc) ls (.slice ar t rc) ros sx wS w') => (show AHeld n sb gc gp gd gh (.slice ae el ec) (.slice (some ⟨O, 0, none⟩) n n) (.slice ha n hc) (.slice aw m wc) (tgN : Int) es h ws s1 wS w' from ⟨sx, hsx1, hsx2, hsx3, a1, q1, c1, f1, al, ll, lc, ls, ar, t, rc, ros, hX2, ht, hq1, hll, hlQ, hok, hhs, hla, hln, htop⟩))
        clear hC hA1 ht ht1 hsx1 hsx2 hsx3 hq1 hll hlQ hok hhs hla hln htop hst
        go_wp2_with fail
        refine (aover_any sb t rc m wc ar aw _ c12 c5).mono ?_
        rintro e w2 ⟨rfl, kk, rfl⟩
        rw [hov2]
        have hX2 := hide (hX.out.stays (up_drewN (n := kk) (Below.refl _ _)))
        clear c5 c12 hX
        generalize wr.drewN kk = w2 at hX2 ⊢
        go_wp2
        go_ret
        exact ⟨k, s1, rfl, hfin.out, hfin2.out _ hX2.out, hs1.out, by have := hm.out; omega⟩
      · have hov2 : ((t : Int) == (m : Int)) = false := by simp; omega
        obtain rfl : sx = s1 := hsx3 (by have := hm.out; omega)
        obtain ⟨r, hr⟩ : ∃ r, ws[t]? = some r := ⟨ws[t]'(by have := hm.out; omega), List.getElem?_eq_getElem _⟩
        have hrs : ws[sx.told.length]? = some r := by rw [← ht]; exact hr
        obtain ⟨hq0, v, hnv, hf0⟩ := htop rfl r hrs
        replace hhs := hide (hhs r hrs)
        have hvn := hnv.1.1
        have hvw := hnv.1.2
        have hvl := (hs1.out.ok.wt v hvw).2
        have hdn := ainv_done hs1.out hn64.2 htm hm.out.2.2
        have hdn2 : sx.done + 1 ≤ 64 * m := by have := hs1.out.dn; have := nb_le n (upz sx.lk v true); rw [nb_look hvl n hvn] at this; omega
        obtain ⟨q', rfl⟩ : ∃ q', q1 = q' + 1 := ⟨q1 - 1, by omega⟩
        obtain ⟨gs, rfl, hgs1, hgs2⟩ := hX.out.heap.own.blockI' (by omega)
        have hEn := hEB.out sx.lk
        have hPop := hide (fun (w' : World) (hX' : AX n sb gc gp gd gh (.slice ae el ec) (.slice (some ⟨O, 0, none⟩) n n) (.slice ha n hc) (.slice aw m wc) (tgN : Int) (.slice (some ⟨gs, 0, none⟩) (q' + 1) c1) (q' + 1) f1 (.slice al ll lc) ls (.slice ar t rc) ros sx wS w') => popT_any gh gh q' gs c1 f1 w' hX'.heap (by omega))
        obtain ⟨p1, p2⟩ := pop_ok plLt_ord hok
        rw [hf0] at hPop p2
        have hEL := eb_look hEd.out.1 (lk := sx.lk) hvl
        obtain ⟨ff, hff⟩ : ∃ ff, ff = siftDown plLt q' (upz f1 0 (f1 q')) 0 := ⟨_, rfl⟩
        rw [← hff] at hPop p1 p2
        have hhs2 := hide (ahas_look hhs.out p2 (sx.done + 1))
        have hmd := hide (amd_start hs1.out.ok hvn hvw)
        have hlst := hide (ainv_expand hs1.out hn64.2 htm hm.out.2.2 hvn hvw (fun e he => by
          obtain ⟨x, hx, rfl⟩ := nes_mem he
          have h1 := hEd.out.1 x hx
          have h2 := hEd.out.2.1 x hx
          exact ⟨h2, by simp only; omega⟩))
        have hfold := hide (show (todoOf es v 0).foldl (aedge h v) (alook sx v) = aexpand (nes es) h v sx by rw [todo_filter hEd.out.1 v, ← afold_own]; rfl)
        have hstep := hide (fun s' (hh : ASettle ws es h n tgN (aexpand (nes es) h v sx) s') => asteps_snoc (N := 0) hst.out (by have := hm.out; omega) (show AStep ws es h n tgN sx s' from ⟨r, v, hrs, hnv, hh⟩))
        have hla2 := hide (show LaL (alook sx v) ls from hla)
        obtain ⟨kv, hkv⟩ : ∃ k, k = akey r h sx v := ⟨_, rfl⟩
        obtain ⟨hv9, hhv9⟩ : ∃ k, k = h v := ⟨_, rfl⟩
        have hap : apl r h sx v = ⟨kv, hv9, (v : Int)⟩ := by rw [hkv, hhv9]; rfl
        rw [hap] at hPop
        obtain ⟨D, hD⟩ : ∃ D, D = sx.done := ⟨_, rfl⟩
        have hfld := fun W : World => (show (Instr.field 92 (.agg #[.int .i64 kv, .int .i64 hv9, .int .i64 (v : Int)]) 2).run Try.prog W = .ok (.int .i64 (v : Int)) W by kernel_rfl)
        have iv : (0 : Int) ≤ (v : Int) ∧ (v : Int) < (n : Int) := by omega
        have hwD : IntKind.i64.wrap ((D : Int) + 1) = (D : Int) + 1 := IntWalk.i64_in _ (by omega)
        have hvF := (hs1.out.ok.wt v hvw).1
        replace hff := hide hff
        replace hkv := hide hkv
        replace hhv9 := hide hhv9
        replace p1 := hide p1
        replace hll := hide hll
        replace ht := hide ht
        replace ht1 := hide ht1
        replace hr := hide hr
        replace hEL := hide hEL
        replace hvl := hide hvl
        have hdD := hide hD
        rw [← hD] at hdn hdn2 hgk
        clear hD p2 htop hnv hf0 hhs hok hla hln hap hrs hsx1 hsx2 hsx3 hA1 hst hvw hgs1 hgs2
        go_wp2_with fail
        refine (aover_any sb t rc m wc ar aw _ c12 c5).mono ?_
        rintro e w2 ⟨rfl, kk, rfl⟩
        rw [hov2]
        have hX2 := hide (hX.out.stays (up_drewN (n := kk) (Below.refl _ _)))
        clear c5 c12 hX hov2
        generalize wr.drewN kk = w2 at hX2 ⊢
        have k10 := hX2.out.c10
        go_wp2_with fail
        refine (hPop.out w2 hX2.out).mono ?_
        rintro e w3 ⟨rfl, hA3, hK3⟩
        have hX3 := hide (hX2.out.pop rfl hA3 hK3)
        clear hA3 hK3 hPop hX2 k10
        have k8 := hX3.out.c8
        have k11 := hX3.out.c11
        rw [← hdD.out] at k11
        have dK := hX3.out.atK v hvn
        rw [hvl.out] at dK
        have fK := hX3.out.lk.free v
        have f11 := hX3.out.fz 11
        have hX4 := hide (((hX3.out.setK v hvn true).setS (D + 1)).re (alook sx v) rfl rfl rfl (by rw [hdD.out]; rfl) rfl)
        have hneq := hX3.out.ne
        have zs := cell_lt k8
        have zk := cell_lt dK
        simp only at zs zk
        go_upto_region 7 with fail
        have hwg := hide hX4.out.big
        rw [show ((D + 1 : Nat) : Int) = (D : Int) + 1 by omega] at hX4 hwg
        generalize ((w3.setCell ⟨gd, v, none⟩ (.bool true)).setCell ⟨sb, 11, none⟩ (.int .i64 ((D : Int) + 1))) = w4 at hX4 hwg ⊢
        clear k8 k11 dK fK f11 hX3 zs zk hwD hfld
        obtain ⟨av, cv, r0, hO1, hO2, hO3, rown, hrb⟩ := hOu.out.row v hvn
        have k2 := hX4.out.c2
        have r1 := hX4.out.keep.cu r0 (hdis.out O hO1 hO2)
        obtain ⟨LL, hL⟩ : ∃ LL, LL = (outIdx es v es.length).length := ⟨_, rfl⟩
        have hELo := hEL.out
        rw [← hL] at r1 rown hrb hELo
        have hLl : LL ≤ 600 := by rw [hL]; exact Nat.le_trans (outIdx_len es v es.length) (by have := hEd.out.2.2; omega)
        have hrow := hide (fun (wq : World) (hq : Keep (AXb sb gc gp gd gh) wS wq) => hq.own rown (fun j hj hc' => hdis.out j (hrb j hj).1 (hrb j hj).2 hc'))
        have zO := cell_lt r1
        simp only at zO
        obtain ⟨Q0, hQ0⟩ : ∃ q, q = 64 + eB es sx.lk := ⟨_, rfl⟩
        rw [← hQ0] at hq1 hlQ
        have hQb : Q0 ≤ 664 := by omega
        have hq2 : q' ≤ Q0 + 0 := by omega
        have hl2 : ll ≤ Q0 + 0 := by omega
        have hEQ := hide (show Q0 + LL = 64 + eB es (upz sx.lk v true) by rw [hELo, hQ0]; omega)
        have hsm0 := hide (show (alook sx v).told = sx.told ∧ (alook sx v).done = sx.done + 1 ∧ (alook sx v).lk = upz sx.lk v true from ⟨rfl, rfl, rfl⟩)
        obtain ⟨s0, hs0⟩ : ∃ s0, s0 = alook sx v := ⟨_, rfl⟩
        have hhs3 := hide (show AHas r h n s0 (RW q' ff) by rw [hs0]; exact hhs2.out)
        rw [← hs0] at hX4 hmd hfold hla2 hsm0
        replace hs0 := hide hs0
        replace hL := hide hL
        replace hQ0 := hide hQ0
        clear r0 hO1 hO2 hO3 rown hrb hELo hEL hEn hq1 hlQ hhs2 hwg
        go_wp2
        go_loopw [47] (fun i wr => ∃ (j : Nat) (s2 : AS) (a2 : Option Addr) (q2 c2 : Nat) (f2 : Nat → Ed) (al2 : Option Addr) (l2 lc2 : Nat) (ls2 : List Nat), j ≤ LL ∧ i = .int .i64 (j : Int) ∧ Hid (AX n sb gc gp gd gh (.slice ae el ec) (.slice (some ⟨O, 0, none⟩) n n) (.slice ha n hc) (.slice aw m wc) (tgN : Int) (.slice a2 q2 c2) q2 f2 (.slice al2 l2 lc2) ls2 (.slice ar t rc) ros s2 wS wr) ∧ Hid (AHas r h n s2 (RW q2 f2)) ∧ Hid (HeapOK plLt q2 f2) ∧ Hid (AMd n h v s2) ∧ Hid (LaL s2 ls2) ∧ Hid (l2 = ls2.length) ∧ Hid ((todoOf es v j).foldl (aedge h v) s2 = aexpand (nes es) h v sx) ∧ Hid (s2.told = sx.told ∧ s2.done = sx.done + 1 ∧ s2.lk = upz sx.lk v true) ∧ q2 ≤ Q0 + j ∧ l2 ≤ Q0 + j) (fun i _ => LL - (intOf i).toNat)
        case atStart => exact ⟨0, s0, _, q', c1, ff, al, ll, lc, ls, Nat.zero_le _, rfl, hX4, hhs3, p1, hmd, hla2, hll, hfold, hsm0, hq2, hl2⟩
        case round =>
          clear hX4 hhs3 p1 hmd hla2 hll hfold hsm0 hq2 hl2 k2 r1
          obtain ⟨j, s2, a2, q2, c2, f2, al2, l2, lc2, ls2, hj, rfl, hX, hhs, hok, hmd, hla, hll, hfold, hsm, hq2, hl2⟩ := hrel
          by_cases hlt : j < LL
          · have hjl : j < (outIdx es v es.length).length := by rw [← hL.out]; exact hlt
            obtain ⟨i, hi1, hi2, hi3⟩ := outIdx_get es v j hjl
            obtain ⟨u2, vv, e1', e2', e3, e4, e5, e6, -⟩ := right_edge hEd.out.1 i hi2
            have e7 := hEd.out.2.1 es[i] (List.getElem_mem hi2)
            have htd := todo_step hjl hi1 hi2 hi3 e2'
            have rown := hrow.out wr hX.out.keep
            obtain ⟨gr, rfl, hgr1, hgr2⟩ := rown.blockI' (by omega)
            have rc := rown.getI j hjl
            rw [hi1] at rc
            have k1 := hX.out.c1
            obtain ⟨b, o, rfl, hbB, m1, m2, m3⟩ := (hC.out.er _ hX.out.keep).ed i hi2
            rw [e1'] at m1
            rw [e2'] at m2
            obtain ⟨ee, hec⟩ : ∃ ee, ee = es[i].c := ⟨_, rfl⟩
            rw [← hec] at m3 e5 e6 e7 htd
            have hwr := hX.out.big
            have hbr : b < wr.heap.size := by omega
            have zsb : sb < wr.heap.size := by have := hX.out.lt; omega
            have zgc : gc < wr.heap.size := by have := hX.out.lt; omega
            have x4 := hX.out.c6
            have xC := hX.out.cost.atI v hvn
            have hcu := hmd.out.cv
            have hsd := hsm.out.2.1
            rw [hsd, ← hdD.out] at hcu
            obtain ⟨x2, hx2⟩ : ∃ x2, x2 = s2.cost v := ⟨_, rfl⟩
            rw [← hx2] at xC hcu
            have ij : (0 : Int) ≤ (j : Int) ∧ (j : Int) < (LL : Int) := by omega
            have ii : (0 : Int) ≤ (i : Int) ∧ (i : Int) < (el : Int) := by have := hEd.out.2.2.1; omega
            have hgrl : gr < wr.heap.size := hgr2
            have hcb := fun u => (show s2.cost u = FAR ∨ (0 ≤ s2.cost u ∧ s2.cost u ≤ 1000000000) from by
              have h1 := hmd.out.ok.cb u
              rw [hsd, ← hdD.out] at h1
              rcases h1 with h1 | h1
              · exact .inl h1
              · right; push_cast at h1; omega)
            have hreach := hide (fun (w' : World) (hb : Below wr.heap.size wr w') => areach_any vv (x2 + ee) (v : Int) r hr.out (hX.out.stays hb) hC.out e4 (by push_cast at hcu; omega) (by push_cast at hcu; omega) (by omega) hll.out (by omega) hcb (fun u hu => (hmd.out.ok.wt u hu).2) hok.out hhs.out hla.out)
            rw [hx2, ← aedge_reach h v s2 ⟨v, vv, ee⟩ rfl, ← hx2] at hreach
            have hwrap := hide (show IntKind.i64.wrap (x2 + ee) = x2 + ee from IntWalk.i64_in _ (by push_cast at hcu; omega))
            have hmd2 := hide (amd_edge hmd.out hvn (e := ⟨v, vv, ee⟩) (by simp only; omega) (by rw [hsd, ← hdD.out]; omega))
            have hfold2 := hfold.out
            rw [htd, List.foldl_cons] at hfold2
            have hsm2 := hide (show (aedge h v s2 ⟨v, vv, ee⟩).told = sx.told ∧ (aedge h v s2 ⟨v, vv, ee⟩).done = sx.done + 1 ∧ (aedge h v s2 ⟨v, vv, ee⟩).lk = upz sx.lk v true by rw [aedge_same.1, aedge_same.2.1, aedge_same.2.2]; exact hsm.out)
            replace hfold2 := hide hfold2
            replace hx2 := hide hx2
            replace hec := hide hec
            replace e1' := hide e1'
            replace e2' := hide e2'
            replace hi1 := hide hi1
            replace hi3 := hide hi3
            clear htd rown hfold hmd hhs hok hsm hla hll hcb hsd hcu
            have key2 := hide (show ∀ w', Below (wr.alloc (.cells #[.int .i64 (u2 : Int), .int .i64 (vv : Int), .int .i64 ee] 69)).heap.size (wr.alloc (.cells #[.int .i64 (u2 : Int), .int .i64 (vv : Int), .int .i64 ee] 69)) w' → (Below wr.heap.size wr w' ∧ w'.cell? ⟨wr.heap.size, 1, none⟩ = some (.int .i64 (vv : Int)) ∧ w'.cell? ⟨wr.heap.size, 2, none⟩ = some (.int .i64 ee) ∧ w'.cell? ⟨sb, 6, none⟩ = some (.slice (some ⟨gc, 0, none⟩) n n) ∧ w'.cell? ⟨gc, v, none⟩ = some (.int .i64 x2)) from fun w' hb =>
              ⟨unalloc (hb.mono (by simp)) (Nat.le_refl _), cu_below hb (by simp [go_sem]) (by simp), cu_below hb (by simp [go_sem]) (by simp), cu_below hb (cu_alloc x4) (by simp; omega), cu_below hb (cu_alloc xC) (by simp; omega)⟩)
            go_wp2
            refine wp_region_end (S := (fun w' => Below wr.heap.size wr w' ∧ w'.cell? ⟨wr.heap.size, 1, none⟩ = some (.int .i64 (vv : Int)) ∧ w'.cell? ⟨wr.heap.size, 2, none⟩ = some (.int .i64 ee) ∧ w'.cell? ⟨sb, 6, none⟩ = some (.slice (some ⟨gc, 0, none⟩) n n) ∧ w'.cell? ⟨gc, v, none⟩ = some (.int .i64 x2))) (t := 14) (by kernel_rfl) ?_ (fun hHeld hInv => ?_)
            · exact key2.out _ (up_drew (Below.refl _ _))
            replace hInv := hide hInv
            refine planE [0, 1, 2, 3, 4, 5, 6, 7, 8, 9, 10, 11, 12, 13] ?_
            iterate 14
              refine PlanE.take (v := ?_) (List.getElem?_toArray.trans rfl) (by kernel_rfl) (fun _ _ _ h => h) (Or.inl ⟨by rfl, ?_⟩) hInv.out (by assumption) (fun hInv' => ?_)
              rotate_left
              · intro w hSw; (try dsimp only at hSw); go_simp; (try with_reducible rfl)
              replace hInv := hide hInv'; clear hInv'; try simp only [Act.put, List.setIfInBounds_toArray, List.set_cons_zero, List.set_cons_succ]
            refine wpAnyE_one (i := 14) (List.getElem?_toArray.trans rfl) (by kernel_rfl) (fun K hK => ?_) hInv.out
            (go_simp; (try rw [hwrap.out]); have hbH := hHeld.1; refine (hreach.out _ hbH).mono ?_; rintro e w6 ⟨rfl, a3, q3, c3, f4, al3, l3, lc3, ls3, hX11, hq11, hll11, hlq11, hok11, hhs11, hla11⟩)
            refine hK.out _ _ (fun h => absurd rfl h) (fun _ => ?_)
            clear hK K hInv; try simp only [Act.put, List.setIfInBounds_toArray, List.set_cons_zero, List.set_cons_succ]
            refine wpAnyE_done (by kernel_rfl) ?_ _
            replace hX11 := hide hX11
            replace hok11 := hide hok11
            replace hhs11 := hide hhs11
            replace hll11 := hide hll11
            replace hla11 := hide hla11
            clear hX hHeld hbH hreach key2
            go_wp2
            go_roundw
            case rel => exact ⟨j + 1, aedge h v s2 ⟨v, vv, ee⟩, a3, q3, c3, f4, al3, l3, lc3, ls3, by omega, by go_num, hX11, hhs11, hok11, hmd2, hla11, hll11, hfold2, hsm2, by omega, by omega⟩
            case measure => simp [intOf]; omega
          · obtain rfl : LL = j := by omega
            have hfin := hfold.out
            rw [hL.out, todo_end] at hfin
            have hfin2 : s2 = aexpand (nes es) h v sx := hfin
            have hAI := hlst.out
            rw [← hfin2] at hAI hstep
            have hln2 := fun u (hu : u ∈ ls2) => hAI.1.ok.lk u (hAI.1.ok.la u ((hla.out u).2 hu)).2
            have hSet := hide (asettle_any tgN htg (⟨a2, q2, c2, f2, al2, l2, lc2, ls2, ar, t, rc, ros, hX.out, by rw [hAI.2.1]; exact ht.out, by rw [hAI.2.2.2, ← hEQ.out]; exact hq2, hll.out, by rw [hAI.2.2.2, ← hEQ.out]; exact hl2, hok.out, fun r2 hr2 => (by rw [hAI.2.1, ← ht.out, hr.out] at hr2; cases hr2; exact hhs.out), hla.out, hln2, fun e => by cases e⟩ : ASt n sb gc gp gd gh (.slice ae el ec) (.slice (some ⟨O, 0, none⟩) n n) (.slice ha n hc) (.slice aw m wc) (tgN : Int) es h ws false s2 wS wr) hC.out hAI.1.ok (by rw [hAI.2.2.1, ← hdD.out]; omega) hAI.1.lw (by rw [hAI.2.1]; exact htm))
            have hwk : IntKind.i64.wrap ((k : Int) + 1) = (k : Int) + 1 := IntWalk.i64_in _ (by omega)
            have hAI2 := hide hAI
            clear hfin hfin2 hAI hln2 hX hhs hok hmd hla hll hfold hsm hq2 hl2 hlst hEQ
            go_wp2_with fail
            refine hSet.out.mono ?_
            rintro e w6 ⟨rfl, s', sx', hset, hx1, hx2, hx3, hASt⟩
            have hA6 := hide (show AHeld n sb gc gp gd gh (.slice ae el ec) (.slice (some ⟨O, 0, none⟩) n n) (.slice ha n hc) (.slice aw m wc) (tgN : Int) es h ws s' wS w6 from ⟨sx', hx1, hx2, hx3, hASt⟩)
            have hAI6 := hide (ainv_settle hset htg hn64.2 hAI2.out.1)
            have hto := settle_told hset (by rw [hAI2.out.2.1]; have := hm.out; omega)
            have hto1 : s'.told.length ≤ m := by have := hm.out; omega
            have hto2 : s'.done = D + 1 := by rw [hto.2.2, hAI2.out.2.2.1, hdD.out]
            have hst6 := hide (hstep.out s' hset)
            clear hset hx1 hx2 hx3 hASt hto hSet
            go_wp2
            go_roundg (gk - 1)
            case measure => omega
            case rel => exact ⟨k + 1, s', by go_num, .inl (by omega), hA6, hAI6, hto1, hst6, by omega⟩
    · have hkN : k = nn.toNat := by omega
      have hfin := hide (show ASteps ws es h n tgN nn.toNat s k s1 from hkN ▸ hst.out)
      clear hC hst hOu hdis hkN
      go_wp2
      go_ret
      exact ⟨k, s1, rfl, hfin.out, hA1.out, hs1.out, by have := hm.out; omega⟩
end
end Go.Proofs.Ytccailcjclbhlaa

/-! The check of weights that fall: the program's and the reference's are one. Condition: the slice reads. -/
namespace Go.Proofs.Ytccailcjclbhlaa
open Go.RowKit
set_option linter.unusedSimpArgs false
set_option linter.unusedVariables false
def wsFrom : Option P2 → List P2 → Int
  | _, [] => 0
  | none, r :: l => if weighErr r ≠ 0 then weighErr r else wsFrom (some r) l
  | some p, r :: l => if weighErr r ≠ 0 then weighErr r else if p.a * r.b ≤ r.a * p.b then 1 else wsFrom (some r) l
def wsErr (l : List P2) : Int := if l.length = 0 then 1 else if 8 < l.length then 2 else wsFrom none l
/-- what is left of the check at place i -/
def wsI (l : List P2) (i : Nat) : Int := wsFrom (if i = 0 then none else l[i - 1]?) (l.drop i)
theorem wsI_end (l : List P2) : wsI l l.length = 0 := by
  unfold wsI
  rw [List.drop_length]
  cases (if l.length = 0 then none else l[l.length - 1]?) <;> rfl
theorem wsI_bad {l : List P2} {i : Nat} (hi : i < l.length) (h : weighErr l[i] ≠ 0) : wsI l i = weighErr l[i] := by
  unfold wsI
  rw [List.drop_eq_getElem_cons hi]
  cases (if i = 0 then none else l[i - 1]?) <;> simp [wsFrom, h]
theorem wsI_first {l : List P2} (hi : 0 < l.length) (h : weighErr l[0] = 0) : wsI l 0 = wsI l 1 := by
  unfold wsI
  rw [List.drop_eq_getElem_cons hi]
  simp [wsFrom, h, List.getElem?_eq_getElem hi]
theorem wsI_stop {l : List P2} {j : Nat} (hi : j + 1 < l.length) (h : weighErr l[j + 1] = 0) (hc : l[j].a * l[j + 1].b ≤ l[j + 1].a * l[j].b) : wsI l (j + 1) = 1 := by
  unfold wsI
  rw [List.drop_eq_getElem_cons hi, if_neg (by omega), show j + 1 - 1 = j by omega, List.getElem?_eq_getElem (show j < l.length by omega)]
  simp [wsFrom, h, hc]
theorem wsI_next {l : List P2} {j : Nat} (hi : j + 1 < l.length) (h : weighErr l[j + 1] = 0) (hc : ¬ l[j].a * l[j + 1].b ≤ l[j + 1].a * l[j].b) : wsI l (j + 1) = wsI l (j + 2) := by
  have e : wsI l (j + 2) = wsFrom (some l[j + 1]) (l.drop (j + 2)) := by
    unfold wsI
    rw [if_neg (by omega), show j + 2 - 1 = j + 1 by omega, List.getElem?_eq_getElem hi]
  rw [e]
  unfold wsI
  rw [List.drop_eq_getElem_cons hi, if_neg (by omega), show j + 1 - 1 = j by omega, List.getElem?_eq_getElem (show j < l.length by omega)]
  simp [wsFrom, h, hc]
set_option maxRecDepth 100000 in
set_option maxHeartbeats 4000000 in
theorem aweights_any (a : Option Addr) (m c : Nat) (l : List P2) (hm : l.length = m) (w : World) (B : Nat) (hB : B ≤ w.heap.size) (hP : Row encP 2 w B a l) : Calls Try.prog 33 #[.slice a m c] w fun e w' => e = .returned (.int .i64 (wsErr l)) ∧ Below w.heap.size w w' := by
  have hWt := hide (fun (r : P2) (w : World) => weight_any r w)
  by_cases h0 : m = 0
  · subst h0
    have e : wsErr l = 1 := by unfold wsErr; rw [if_pos hm]
    rw [e]
    clear hP hm e
    go_enter Try.func33, Try.ntmps33
    go_wp2
    go_ret
    exact ⟨rfl, Below.refl _ _⟩
  · have h0' : ((m : Int) == 0) = false := by simp; omega
    by_cases h8 : 8 < m
    · have h8' : (8 : Int) < (m : Int) := by omega
      have e : wsErr l = 2 := by unfold wsErr; rw [if_neg (by omega), if_pos (by omega)]
      rw [e]
      clear hP hm e
      go_enter Try.func33, Try.ntmps33
      go_wp2
      go_ret
      exact ⟨rfl, Below.refl _ _⟩
    · have h8' : ¬ ((8 : Int) < (m : Int)) := by omega
      have e : wsErr l = wsI l 0 := by unfold wsErr wsI; rw [if_neg (by omega), if_neg (by omega), if_pos rfl]; rfl
      obtain ⟨res, hres⟩ : ∃ x, x = wsErr l := ⟨_, rfl⟩
      rw [← hres] at e ⊢
      have hi0 := hide e.symm
      have hz0 := hide (show ∀ j (h : j < l.length), j < 0 → weighErr l[j] = 0 from fun j _ h => by omega)
      replace hres := hide hres
      replace hP := hide hP
      replace hm := hide hm
      clear e
      go_enter Try.func33, Try.ntmps33
      go_wp2
      go_loopw [14] (fun i wr => ∃ k : Nat, k ≤ m ∧ i = .int .i64 (k : Int) ∧ Hid (wsI l k = res) ∧ Hid (∀ j (h : j < l.length), j < k → weighErr l[j] = 0) ∧ Hid (Below w.heap.size w wr)) (fun i _ => m - (intOf i).toNat)
      case atStart => exact ⟨0, Nat.zero_le _, rfl, hi0, hz0, hide (Below.refl _ _)⟩
      case round =>
        clear hi0 hz0
        obtain ⟨k, hkm, rfl, hI, hz, hbw⟩ := hrel
        by_cases hlt : k < m
        · have hkl : k < l.length := by have := hm.out; omega
          obtain ⟨b, o, rfl, hb, r0, r1⟩ := (hP.out.below hbw.out hB).p2 k hkl
          have hzw : w.heap.size ≤ wr.heap.size := hbw.out.size
          have hbr : b < wr.heap.size := by omega
          obtain ⟨x, hx⟩ : ∃ x, x = l[k] := ⟨_, rfl⟩
          rw [← hx] at r0 r1
          have hcall := hide (hWt.out x)
          have ik : (0 : Int) ≤ (k : Int) ∧ (k : Int) < (m : Int) := by omega
          obtain ⟨xa, xb⟩ := x
          simp only at r0 r1
          obtain ⟨er, her⟩ : ∃ er, er = weighErr ⟨xa, xb⟩ := ⟨_, rfl⟩
          simp only [← her] at hcall
          go_wp2_with fail
          refine (hcall.out _).mono ?_
          rintro e w1 ⟨rfl, hb1⟩
          have hb2 := hide (hbw.out.trans ((up_alloc (Below.refl _ _) (Nat.le_refl _) : Below wr.heap.size wr (wr.alloc (.cells #[.int .i64 xa, .int .i64 xb] 49))).trans (hb1.mono (by simp)) |>.mono hzw))
          have m0 := cu_below hb1 (p := ⟨wr.heap.size, 0, none⟩) (v := .int .i64 xa) (by simp [go_sem]) (by simp)
          have m1 := cu_below hb1 (p := ⟨wr.heap.size, 1, none⟩) (v := .int .i64 xb) (by simp [go_sem]) (by simp)
          clear hcall
          by_cases her0 : er = 0
          · have q1 : (er != 0) = false := by simp [her0]
            have hzk : weighErr l[k] = 0 := by rw [← hx, ← her]; exact her0
            have hz2 := hide (show ∀ j (h : j < l.length), j < k + 1 → weighErr l[j] = 0 from fun j hj h => by
              by_cases hjk : j = k
              · subst hjk; exact hzk
              · exact hz.out j hj (by omega))
            have hxo := weighErr_ok (r := ⟨xa, xb⟩) (by rw [← her]; exact her0)
            simp only at hxo
            rcases k with _ | j
            · have hI2 := hide (show wsI l (0 + 1) = res by rw [← hI.out]; exact (wsI_first hkl hzk).symm)
              replace hx := hide hx
              replace her := hide her
              clear hxo hz hI hzk her0
              go_wp2
              go_quiet (fail)
              have hb3 := hide (up_drewN (n := nq) hb2.out)
              go_wp2
              go_roundw
              case rel => exact ⟨0 + 1, by omega, by go_num, hI2, hz2, hb3⟩
              case measure => simp [intOf]; omega
            · have hjl : j < l.length := by omega
              obtain ⟨b', o', e', hb', t0, t1⟩ := ((hP.out.below hbw.out hB).p2 j hjl)
              simp only [Option.some.injEq, Addr.mk.injEq] at e'
              obtain ⟨rfl, rfl, -⟩ := e'
              have hyo := weighErr_ok (hz.out j hjl (by omega))
              have hst := wsI_stop hkl hzk
              have hnx := wsI_next hkl hzk
              rw [← hx] at hst hnx
              obtain ⟨y, hy⟩ : ∃ y, y = l[j] := ⟨_, rfl⟩
              rw [← hy] at t0 t1 hyo hst hnx
              obtain ⟨ya, yb⟩ := y
              simp only at t0 t1 hyo hst hnx
              rw [hI.out] at hst hnx
              have t0 := cu_below hb1 (cu_alloc (o := .cells #[.int .i64 xa, .int .i64 xb] 49) t0) (by simp; omega)
              have t1 := cu_below hb1 (cu_alloc (o := .cells #[.int .i64 xa, .int .i64 xb] 49) t1) (by simp; omega)
              have e1 : xa * yb ≤ 1000000 * 1000000 := Int.mul_le_mul hxo.2.2 (by omega) (by omega) (by omega)
              have e2 : ya * xb ≤ 1000000 * 1000000 := Int.mul_le_mul hyo.2.2 (by omega) (by omega) (by omega)
              have e3 : 0 ≤ xa * yb := Int.mul_nonneg (by omega) (by omega)
              have e4 : 0 ≤ ya * xb := Int.mul_nonneg (by omega) (by omega)
              have w1' : IntKind.i64.wrap (xa * yb) = xa * yb := IntWalk.i64_in _ (by omega)
              have w2' : IntKind.i64.wrap (ya * xb) = ya * xb := IntWalk.i64_in _ (by omega)
              have w3' : IntKind.i64.wrap ((j : Int)) = (j : Int) := IntWalk.i64_in _ (by omega)
              have hj0 : (0 : Int) < ((j + 1 : Nat) : Int) := by omega
              have ij : (0 : Int) ≤ (j : Int) ∧ (j : Int) < (m : Int) := by omega
              replace hx := hide hx
              replace her := hide her
              replace hy := hide hy
              clear hxo hyo hz hI hzk her0 e1 e2 e3 e4
              by_cases hc : ya * xb ≤ xa * yb
              · have hr := hst hc
                subst hr
                have hc2 := hide hc
                clear hst hnx
                go_wp2
                go_quiet (fail)
                have hb3 := hide (up_drewN (n := nq) hb2.out)
                go_wp2
                go_ret
                exact ⟨rfl, hb3.out⟩
              · have hI2 := hide (show wsI l (j + 1 + 1) = res from (hnx hc).symm)
                have hc' : xa * yb < ya * xb := by omega
                clear hst hnx
                go_wp2
                go_quiet (fail)
                have hb3 := hide (up_drewN (n := nq) hb2.out)
                go_wp2
                go_roundw
                case rel => exact ⟨j + 1 + 1, by omega, by go_num, hI2, hz2, hb3⟩
                case measure => simp [intOf]; omega
          · have q1 : (er != 0) = true := by simpa using her0
            have hr : er = res := by
              rw [← hI.out, her, hx]
              exact (wsI_bad hkl (by rw [← hx, ← her]; exact her0)).symm
            subst hr
            replace hx := hide hx
            replace her := hide her
            clear her0
            go_wp2
            go_ret
            exact ⟨rfl, hb2.out⟩
        · obtain rfl : m = k := by omega
          have hr : (0 : Int) = res := by rw [← hI.out, ← hm.out]; exact (wsI_end l).symm
          subst hr
          go_wp2
          go_ret
          exact ⟨rfl, hbw.out⟩
end Go.Proofs.Ytccailcjclbhlaa

/-! A search by rounds: what New returns. Conditions: that the arguments read. -/
namespace Go.Proofs.Ytccailcjclbhlaa
open Go.RowKit
set_option linter.unusedSimpArgs false
set_option linter.unusedVariables false
theorem wsFrom_ok : ∀ (l : List P2) (p : Option P2), wsFrom p l = 0 → ∀ r ∈ l, WOk r
  | [], _, _, r, hr => by cases hr
  | x :: l, p, h, r, hr => by
    have hx : weighErr x = 0 ∧ wsFrom (some x) l = 0 := by
      cases p with
      | none =>
        unfold wsFrom at h
        by_cases h1 : weighErr x = 0
        · exact ⟨h1, by simpa [h1] using h⟩
        · rw [if_pos h1] at h; exact absurd h h1
      | some p =>
        unfold wsFrom at h
        by_cases h1 : weighErr x = 0
        · rw [if_neg (by simp [h1])] at h
          by_cases h2 : p.a * x.b ≤ x.a * p.b
          · rw [if_pos h2] at h; cases h
          · rw [if_neg h2] at h; exact ⟨h1, h⟩
        · rw [if_pos h1] at h; exact absurd h h1
    rcases List.mem_cons.1 hr with rfl | hr
    · exact weighErr_ok hx.1
    · exact wsFrom_ok l (some x) hx.2 r hr
theorem wsErr_ok {l : List P2} (h : wsErr l = 0) : 1 ≤ l.length ∧ l.length ≤ 8 ∧ ∀ r ∈ l, WOk r := by
  unfold wsErr at h
  by_cases h0 : l.length = 0
  · rw [if_pos h0] at h; cases h
  · rw [if_neg h0] at h
    by_cases h8 : 8 < l.length
    · rw [if_pos h8] at h; cases h
    · rw [if_neg h8] at h
      exact ⟨by omega, by omega, wsFrom_ok l none h⟩
/-- what stands right behind the making -/
def a00 : AS := ⟨fun _ => 0, fun _ => 0, fun _ => false, fun _ => false, fun _ => false, 0, []⟩
def a01 : AS := ⟨fun _ => FAR, fun _ => -1, fun _ => false, fun _ => false, fun _ => false, 0, []⟩
theorem areach_start (h : Nat → Int) (v : Nat) : areachS h a01 v 0 (-1) = aStart h v := by
  unfold areachS aStart a01
  by_cases hf : h v = FAR
  · rw [if_neg (fun x => x.1 hf), if_pos hf]
  · rw [if_pos ⟨hf, by simp [FAR]⟩, if_neg hf]
    simp only [Bool.false_eq_true, if_false]
    rw [upz_own (fun _ => (-1 : Int)) v]
theorem info_ratioN : (Try.prog.info? 49).map (fun i => (i.zero, i.size, i.bytes)) = some (some (.agg #[.int .i64 0, .int .i64 0]), 2, 16) := by kernel_rfl
theorem AX.recost [AFr] {n sb gc gp gd gh : Nat} {ev ov hv wv : Value} {tg : Int} {v : Value} {k : Nat} {f : Nat → Ed} {lv : Value} {ls : List Nat} {rv : Value} {ros : List RV} {s : AS} {wS wr : World} (h : AX n sb gc gp gd gh ev ov hv wv tg v k f lv ls rv ros s wS wr) (s' : AS) (h1 : LI n s'.cost = LI n s.cost) (h2 : LI n s'.pred = LI n s.pred) (h3 : s'.lk = s.lk) (h4 : s'.done = s.done) (h5 : s'.told = s.told) : AX n sb gc gp gd gh ev ov hv wv tg v k f lv ls rv ros s' wS wr :=
  ⟨h.c0, h.c1, h.c2, h.c3, h.c4, h.c5, h.c6, h.c7, h.c8, h.c9, h.c10, h4 ▸ h.c11, h.c12, h.fz, h1 ▸ h.cost, h2 ▸ h.pred, h3 ▸ h.lk, h.heap, h.late, h.rnds, h5 ▸ h.told, h.keep, h.hs, h.apL, h.apR, h.apP, h.lt, h.ne, h.nf⟩
attribute [local instance] AFr.none
/-- what its first statement makes -/
structure AMade (w0 : World) (n : Nat) (tg : Int) (es : List Ed) (h : Nat → Int) (ws : List P2) (sb gc gp gd gh el ec hc m wc : Nat) (ae ha aw : Option Addr) (wx : World) : Prop where
  c0 : wx.cell? ⟨sb, 0, none⟩ = some (.int .i64 (n : Int))
  c1 : wx.cell? ⟨sb, 1, none⟩ = some (.slice ae el ec)
  c2 : wx.cell? ⟨sb, 2, none⟩ = some (.slice none 0 0)
  c3 : wx.cell? ⟨sb, 3, none⟩ = some (.int .i64 tg)
  c4 : wx.cell? ⟨sb, 4, none⟩ = some (.slice ha n hc)
  c5 : wx.cell? ⟨sb, 5, none⟩ = some (.slice aw m wc)
  c6 : wx.cell? ⟨sb, 6, none⟩ = some (.slice (some ⟨gc, 0, none⟩) n n)
  c7 : wx.cell? ⟨sb, 7, none⟩ = some (.slice (some ⟨gp, 0, none⟩) n n)
  c8 : wx.cell? ⟨sb, 8, none⟩ = some (.slice (some ⟨gd, 0, none⟩) n n)
  c9 : wx.cell? ⟨sb, 9, none⟩ = some (.slice none 0 0)
  c10 : wx.cell? ⟨sb, 10, none⟩ = some (.pointer (some ⟨gh, 0, none⟩))
  c11 : wx.cell? ⟨sb, 11, none⟩ = some (.int .i64 0)
  c12 : wx.cell? ⟨sb, 12, none⟩ = some (.slice none 0 0)
  fz : ∀ o, wx.frozen? ⟨sb, o, none⟩ = false
  cost : Own encI 1 3 wx w0.heap.size (.slice (some ⟨gc, 0, none⟩) n n) (LI n (fun _ => 0))
  pred : Own encI 1 3 wx w0.heap.size (.slice (some ⟨gp, 0, none⟩) n n) (LI n (fun _ => 0))
  lk : Own encB 1 4 wx w0.heap.size (.slice (some ⟨gd, 0, none⟩) n n) (LB n (fun _ => false))
  heap : HeapT wx gh gh (.func (.func 36) #[] #[]) (.slice none 0 0) 0 (fun _ => ⟨0, 0, 0⟩)
  eo : Own encE 3 69 wx w0.heap.size (.slice ae el ec) es
  ho : Own encI 1 3 wx w0.heap.size (.slice ha n hc) (LI n h)
  wo : Own encP 2 49 wx w0.heap.size (.slice aw m wc) ws
  below : Below w0.heap.size w0 wx
  low : w0.heap.size ≤ sb ∧ w0.heap.size ≤ gc ∧ w0.heap.size ≤ gp ∧ w0.heap.size ≤ gd ∧ w0.heap.size ≤ gh
  lt : sb < wx.heap.size ∧ gc < wx.heap.size ∧ gp < wx.heap.size ∧ gd < wx.heap.size ∧ gh < wx.heap.size
  ne : sb ≠ gc ∧ sb ≠ gp ∧ sb ≠ gd ∧ sb ≠ gh ∧ gc ≠ gp ∧ gc ≠ gd ∧ gc ≠ gh ∧ gp ≠ gd ∧ gp ≠ gh ∧ gd ≠ gh
  ex : ∀ j, (Value.slice ae el ec).ownBlock = some j → ¬ AXb sb gc gp gd gh j
  hx : ∀ j, (Value.slice ha n hc).ownBlock = some j → ¬ AXb sb gc gp gd gh j
  wx : ∀ j, (Value.slice aw m wc).ownBlock = some j → ¬ AXb sb gc gp gd gh j
def MidA (w0 : World) (n : Nat) (tg : Int) (es : List Ed) (h : Nat → Int) (ws : List P2) (s14 : Value) (wx : World) : Prop :=
  ∃ sb gc gp gd gh ec hc wc ae ha aw, s14 = .pointer (some ⟨sb, 0, none⟩) ∧ AMade w0 n tg es h ws sb gc gp gd gh es.length ec hc ws.length wc ae ha aw wx
/-- the object as it stands when the table of the edges was put in -/
theorem AMade.ax {w0 wx w8 : World} {n : Nat} {tg : Int} {es : List Ed} {h : Nat → Int} {ws : List P2} {sb gc gp gd gh el ec hc m wc : Nat} {ae ha aw : Option Addr} (hM : AMade w0 n tg es h ws sb gc gp gd gh el ec hc m wc ae ha aw wx) (hb : Below wx.heap.size wx w8) (O : Nat) :
    AX n sb gc gp gd gh (.slice ae el ec) (.slice (some ⟨O, 0, none⟩) n n) (.slice ha n hc) (.slice aw m wc) tg (.slice none 0 0) 0 (fun _ => ⟨0, 0, 0⟩) (.slice none 0 0) [] (.slice none 0 0) [] a00 (w8.setCell ⟨sb, 2, none⟩ (.slice (some ⟨O, 0, none⟩) n n)) (w8.setCell ⟨sb, 2, none⟩ (.slice (some ⟨O, 0, none⟩) n n)) := by
  have hl := hM.lt
  have hn := hM.ne
  have hK : Keep (fun j => j = sb) wx (w8.setCell ⟨sb, 2, none⟩ (.slice (some ⟨O, 0, none⟩) n n)) := (Keep.new (S := fun j => j = sb) hb).setCell (p := ⟨sb, 2, none⟩) (.inl rfl) _
  have cu : ∀ o x, o ≠ 2 → wx.cell? ⟨sb, o, none⟩ = some x → (w8.setCell ⟨sb, 2, none⟩ (.slice (some ⟨O, 0, none⟩) n n)).cell? ⟨sb, o, none⟩ = some x := fun o x ho hc => cu_set_off (cu_below hb hc (cell_lt hc)) (fun e => ho e.symm)
  have ho : ∀ j, j ≠ sb → ¬ (j = sb) := fun j h => h
  refine ⟨cu 0 _ (by omega) hM.c0, cu 1 _ (by omega) hM.c1, World.cell?_setCell_same _ _ _ (cu_below hb hM.c2 (cell_lt hM.c2)), cu 3 _ (by omega) hM.c3, cu 4 _ (by omega) hM.c4, cu 5 _ (by omega) hM.c5, cu 6 _ (by omega) hM.c6, cu 7 _ (by omega) hM.c7, cu 8 _ (by omega) hM.c8, cu 9 _ (by omega) hM.c9, cu 10 _ (by omega) hM.c10, cu 11 _ (by omega) hM.c11, cu 12 _ (by omega) hM.c12,
    fun o => fu_set (fu_below hb (hM.fz o) (by simp; omega)), ?_, ?_, ?_, ?_, Own.nil _ _, Own.nil _ _, ⟨rfl, fun i hi => by simp [a00] at hi⟩, Keep.refl _ _, fun j hj => by simp [Value.ownBlock] at hj, fun j hj => by simp [Value.ownBlock] at hj, fun j hj => by simp [Value.ownBlock] at hj, (fun j hj => by obtain ⟨r, hr, _⟩ := hj; simp at hr), ?_, hn, AF.ofNone _ _⟩
  · exact (hK.own hM.cost (fun j hj => by simp [Value.ownBlock] at hj; omega)).base_le (Nat.zero_le _)
  · exact (hK.own hM.pred (fun j hj => by simp [Value.ownBlock] at hj; omega)).base_le (Nat.zero_le _)
  · exact (hK.own hM.lk (fun j hj => by simp [Value.ownBlock] at hj; omega)).base_le (Nat.zero_le _)
  · exact hM.heap.keep hK (by omega) (fun j hj => by simp [Value.ownBlock] at hj)
  · have := hK.size
    omega
theorem AMade.ac {w0 wx w8 : World} {n : Nat} {tg : Int} {es : List Ed} {h : Nat → Int} {ws : List P2} {sb gc gp gd gh el ec hc m wc : Nat} {ae ha aw : Option Addr} (hM : AMade w0 n tg es h ws sb gc gp gd gh el ec hc m wc ae ha aw wx) (hb : Below wx.heap.size wx w8) (u : Value) (hn : 1 ≤ n ∧ n ≤ 64) (hh : ∀ u, u < n → 0 ≤ h u ∧ h u ≤ 1099511627776) (hw : ∀ r ∈ ws, WOk r) (wl : ws.length = m ∧ 1 ≤ m ∧ m ≤ 8) (hes : Right n es ∧ (∀ e ∈ es, 1 ≤ e.c) ∧ es.length = el ∧ el ≤ 600) :
    AC n sb gc gp gd gh hc m wc el ec ha aw ae h ws es (w8.setCell ⟨sb, 2, none⟩ u) := by
  have hl := hM.lt
  have hK : Keep (fun j => j = sb) wx (w8.setCell ⟨sb, 2, none⟩ u) := (Keep.new (S := fun j => j = sb) hb).setCell (p := ⟨sb, 2, none⟩) (.inl rfl) _
  have ow : ∀ {α : Type} {enc : α → List Value} {sz : Nat} {e : TypeId} {a : Option Addr} {k c : Nat} {xs : List α}, (∀ x, (enc x).length = sz) → Own enc sz e wx w0.heap.size (.slice a k c) xs → (∀ j, (Value.slice a k c).ownBlock = some j → ¬ AXb sb gc gp gd gh j) → Row enc sz (w8.setCell ⟨sb, 2, none⟩ u) (w8.setCell ⟨sb, 2, none⟩ u).heap.size a xs ∧ ∀ b o, a = some ⟨b, o, none⟩ → ¬ AXb sb gc gp gd gh b := fun hlen ho hx => by
    have h2 := hK.own ho (fun j hj e => hx j hj (.inl e))
    obtain ⟨a', c', hv, hr, _⟩ := h2.row hlen
    cases hv
    refine ⟨hr, fun b o hab => hx b ?_⟩
    rcases ho.form with ⟨h3, _⟩ | ⟨g, cap, h3, _⟩
    · simp only [Value.slice.injEq] at h3
      rw [h3.1] at hab
      cases hab
    · simp only [Value.slice.injEq] at h3
      rw [h3.1] at hab ⊢
      simp only [Option.some.injEq, Addr.mk.injEq] at hab
      simp [Value.ownBlock, hab.1]
  exact ⟨(ow lenI hM.ho hM.hx).1, (ow lenI hM.ho hM.hx).2, (ow lenP hM.wo hM.wx).1, (ow lenP hM.wo hM.wx).2, fun wz hk => row_keep (ow lenE hM.eo hM.ex).1 hk (ow lenE hM.eo hM.ex).2, hn, hh, hw, wl, hes⟩
/-- what each operation of the first statement leaves -/
def FNw (w0 : World) (n : Nat) (tg : Int) (es : List Ed) (h : Nat → Int) (ws : List P2) (ng hv wv : Value) (bw : Nat) : Nat → Value → Nat → Nat → World → Prop
  | 0, v, _, _, _ => v = ng
  | 1, v, lo, hi, w => ∃ a c, v = .agg #[.int .i64 (n : Int), .slice a es.length c] ∧ Own encE 3 69 w lo (.slice a es.length c) es ∧ (∀ j, (Value.slice a es.length c).ownBlock = some j → j < hi) ∧ w0.heap.size ≤ lo
  | 2, v, _, _, _ => v = .int .i64 tg
  | 3, v, _, _, _ => v = hv
  | 4, v, lo, hi, w => ∃ a c, v = .slice a n c ∧ Own encI 1 3 w lo (.slice a n c) (LI n h) ∧ (∀ j, (Value.slice a n c).ownBlock = some j → j < hi) ∧ w0.heap.size ≤ lo
  | 5, v, _, _, _ => v = wv
  | 6, v, lo, hi, w => ∃ a c, v = .slice a ws.length c ∧ Own encP 2 49 w lo (.slice a ws.length c) ws ∧ (∀ j, (Value.slice a ws.length c).ownBlock = some j → j < hi) ∧ w0.heap.size ≤ lo
  | 7, v, _, _, _ => v = .pointer (some ⟨bw, 0, none⟩)
  | 8, v, _, _, _ => v = .int .i64 (n : Int)
  | 9, v, lo, hi, w => v = .slice (some ⟨lo, 0, none⟩) n n ∧ lo < hi ∧ w0.heap.size ≤ lo ∧ Own encI 1 3 w w0.heap.size (.slice (some ⟨lo, 0, none⟩) n n) (LI n (fun _ => 0))
  | 10, v, _, _, _ => v = .pointer (some ⟨bw, 0, none⟩)
  | 11, v, _, _, _ => v = .int .i64 (n : Int)
  | 12, v, lo, hi, w => v = .slice (some ⟨lo, 0, none⟩) n n ∧ lo < hi ∧ w0.heap.size ≤ lo ∧ Own encI 1 3 w w0.heap.size (.slice (some ⟨lo, 0, none⟩) n n) (LI n (fun _ => 0))
  | 13, v, _, _, _ => v = .pointer (some ⟨bw, 0, none⟩)
  | 14, v, _, _, _ => v = .int .i64 (n : Int)
  | 15, v, lo, hi, w => v = .slice (some ⟨lo, 0, none⟩) n n ∧ lo < hi ∧ w0.heap.size ≤ lo ∧ Own encB 1 4 w w0.heap.size (.slice (some ⟨lo, 0, none⟩) n n) (LB n (fun _ => false))
  | 16, v, lo, hi, w => v = .pointer (some ⟨lo, 0, none⟩) ∧ lo < hi ∧ w0.heap.size ≤ lo ∧ HeapT w lo lo (.func (.func 36) #[] #[]) (.slice none 0 0) 0 (fun _ => ⟨0, 0, 0⟩)
  | _, _, _, _, _ => True
theorem fnw_stays {w0 : World} {n : Nat} {tg : Int} {es : List Ed} {h : Nat → Int} {ws : List P2} {ng hv wv : Value} {bw : Nat} : ∀ (i : Nat) (v : Value) (lo hi : Nat) (w w' : World), FNw w0 n tg es h ws ng hv wv bw i v lo hi w → Below w.heap.size w w' → FNw w0 n tg es h ws ng hv wv bw i v lo hi w'
  | 0, _, _, _, _, _, h, _ => h
  | 1, _, _, _, _, _, ⟨a, c, h1, h2, h3, h4⟩, hb => ⟨a, c, h1, h2.stays hb, h3, h4⟩
  | 2, _, _, _, _, _, h, _ => h
  | 3, _, _, _, _, _, h, _ => h
  | 4, _, _, _, _, _, ⟨a, c, h1, h2, h3, h4⟩, hb => ⟨a, c, h1, h2.stays hb, h3, h4⟩
  | 5, _, _, _, _, _, h, _ => h
  | 6, _, _, _, _, _, ⟨a, c, h1, h2, h3, h4⟩, hb => ⟨a, c, h1, h2.stays hb, h3, h4⟩
  | 7, _, _, _, _, _, h, _ => h
  | 8, _, _, _, _, _, h, _ => h
  | 9, _, _, _, _, _, ⟨h1, h2, h3, h4⟩, hb => ⟨h1, h2, h3, h4.stays hb⟩
  | 10, _, _, _, _, _, h, _ => h
  | 11, _, _, _, _, _, h, _ => h
  | 12, _, _, _, _, _, ⟨h1, h2, h3, h4⟩, hb => ⟨h1, h2, h3, h4.stays hb⟩
  | 13, _, _, _, _, _, h, _ => h
  | 14, _, _, _, _, _, h, _ => h
  | 15, _, _, _, _, _, ⟨h1, h2, h3, h4⟩, hb => ⟨h1, h2, h3, h4.stays hb⟩
  | 16, _, _, _, _, _, ⟨h1, h2, h3, h4⟩, hb => ⟨h1, h2, h3, h4.stays hb⟩
  | _ + 17, _, _, _, _, _, _, _ => trivial
theorem anew_bad (N : Int) (a : Option Addr) (cap : Nat) (es : List Ed) (x1 x2 : Int) (ah : Option Addr) (ch : Nat) (h : List Int) (aw : Option Addr) (m cw : Nat) (ws : List P2) (hm : ws.length = m) (w : World) (B : Nat) (hB : B ≤ w.heap.size) (hE : Row encE 3 w B a es) (hH : Row encI 1 w B ah h) (hW : Row encP 2 w B aw ws) (hl : es.length ≤ 9223372036854775807) (hl2 : h.length ≤ 9223372036854775807) (er : Int) (her : er = if slookErr N es x1 x2 h ≠ 0 then slookErr N es x1 x2 h else wsErr ws) (h0 : er ≠ 0) :
    Calls Try.prog 23 #[.agg #[.int .i64 N, .slice a es.length cap], .int .i64 x1, .int .i64 x2, .slice ah h.length ch, .slice aw m cw] w fun e w' => e = .returned (.tuple #[.pointer none, .int .i64 er]) ∧ Below w.heap.size w w' := by
  have hC := hide (fun (w' : World) (hb : Below w.heap.size w w') => slook_any N a cap es x1 x2 ah ch h w' B (Nat.le_trans hB hb.size) (hE.below hb hB) (hH.below hb hB) hl hl2)
  have hD := hide (fun (w' : World) (hb : Below w.heap.size w w') => aweights_any aw m cw ws hm w' B (Nat.le_trans hB hb.size) (hW.below hb hB))
  obtain ⟨e1, he1⟩ : ∃ er, er = slookErr N es x1 x2 h := ⟨_, rfl⟩
  obtain ⟨e2, he2⟩ : ∃ er, er = wsErr ws := ⟨_, rfl⟩
  rw [← he1] at hC her
  rw [← he2] at hD her
  replace he1 := hide he1
  replace he2 := hide he2
  clear hE hH hW hm
  by_cases h1 : e1 = 0
  · subst h1
    obtain rfl : e2 = er := by rw [her]; simp
    have q0 : (e2 != 0) = true := by simpa using h0
    clear her h0
    go_enter Try.func23, Try.ntmps23
    go_wp2_with fail
    refine (hC.out _ (by exact bel)).mono ?_
    rintro e w1 ⟨rfl, hb1⟩
    have hb2 := hide (((bel : Below w.heap.size w _)).trans (hb1.mono (by simp)))
    clear hb1
    go_wp2_with fail
    refine (hD.out _ hb2.out).mono ?_
    rintro e w2 ⟨rfl, hb3⟩
    have hb4 := hide (hb2.out.trans (hb3.mono hb2.out.size))
    clear hb3 hb2
    go_wp2
    refine bodyPost_ret (v := .tuple #[.pointer none, .int .i64 e2]) (by simp [results, Try.results23, go_sem]) rfl ?_
    exact ⟨rfl, hb4.out⟩
  · obtain rfl : e1 = er := by rw [her]; simp [h1]
    have q0 : (e1 != 0) = true := by simpa using h0
    clear her h0 h1
    go_enter Try.func23, Try.ntmps23
    go_wp2_with fail
    refine (hC.out _ (by exact bel)).mono ?_
    rintro e w1 ⟨rfl, hb1⟩
    have hb2 := hide (((bel : Below w.heap.size w _)).trans (hb1.mono (by simp)))
    clear hb1
    go_wp2
    refine bodyPost_ret (v := .tuple #[.pointer none, .int .i64 e1]) (by simp [results, Try.results23, go_sem]) rfl ?_
    exact ⟨rfl, hb2.out⟩
/-- what New leaves -/
def NewAns (n tg : Nat) (es : List Ed) (h : Nat → Int) (ws : List P2) (v : Nat) (w0 : World) (e : Ending) (w' : World) : Prop :=
  ∃ sb gc gp gd gh ec hc wc ae ha aw O lo hi wS s', e = .returned (.tuple #[.pointer (some ⟨sb, 0, none⟩), .int .i64 0]) ∧ AC n sb gc gp gd gh hc ws.length wc es.length ec ha aw ae h ws es wS ∧ OutsAt wS lo hi O n es ∧ (∀ k, lo ≤ k → k < hi → ¬ AXb sb gc gp gd gh k) ∧ ASettle ws es h n tg (aStart h v) s' ∧
    AHeld n sb gc gp gd gh (.slice ae es.length ec) (.slice (some ⟨O, 0, none⟩) n n) (.slice ha n hc) (.slice aw ws.length wc) (tg : Int) es h ws s' wS w' ∧ AInv n h s' ∧ s'.told.length ≤ ws.length ∧ (∀ wz, Keep (AXb sb gc gp gd gh) wS wz → Below w0.heap.size w0 wz) ∧ (∀ j, AXb sb gc gp gd gh j → w0.heap.size ≤ j) ∧ (∀ j, CB es ae ha aw j → w0.heap.size ≤ j ∧ j < wS.heap.size) ∧ w0.heap.size ≤ lo ∧ (∀ b o, ae = some ⟨b, o, none⟩ → ¬ AXb sb gc gp gd gh b)
set_option maxRecDepth 100000 in
set_option maxHeartbeats 8000000 in
theorem anew_ok (n v t : Nat) (a : Option Addr) (cap : Nat) (es : List Ed) (ah : Option Addr) (ch : Nat) (hl : List Int) (aw : Option Addr) (m cw : Nat) (ws : List P2) (hm : ws.length = m) (w : World) (B : Nat) (hB : B ≤ w.heap.size) (hE : Row encE 3 w B a es) (hH : Row encI 1 w B ah hl) (hW : Row encP 2 w B aw ws) (hel : es.length ≤ 9223372036854775807) (hl2 : hl.length ≤ 9223372036854775807) (h0 : slookErr (n : Int) es (v : Int) (t : Int) hl = 0) (h1 : wsErr ws = 0) :
    Calls Try.prog 23 #[.agg #[.int .i64 (n : Int), .slice a es.length cap], .int .i64 (v : Int), .int .i64 (t : Int), .slice ah hl.length ch, .slice aw m cw] w (NewAns n t es (hAt hl) ws v w) := by
  have hC := hide (fun (w' : World) (hb : Below w.heap.size w w') => slook_any (n : Int) a cap es (v : Int) (t : Int) ah ch hl w' B (Nat.le_trans hB hb.size) (hE.below hb hB) (hH.below hb hB) hel hl2)
  have hD := hide (fun (w' : World) (hb : Below w.heap.size w w') => aweights_any aw m cw ws hm w' B (Nat.le_trans hB hb.size) (hW.below hb hB))
  obtain ⟨n', v', t', e1, e2, e3, a1, a2, a3, a4, a5, a6, a7, a8, a9, a10, a11⟩ := slook_all h0
  obtain rfl : n = n' := by omega
  obtain rfl : v = v' := by omega
  obtain rfl : t = t' := by omega
  obtain ⟨b1, b2, b3⟩ := wsErr_ok h1
  rw [h0] at hC
  rw [h1] at hD
  have hlh : LI n (hAt hl) = hl := by have := li_hAt hl; rw [a8] at this; exact this
  rw [← hlh] at hH
  rw [a8] at hC ⊢
  obtain ⟨h, hh⟩ : ∃ h, h = hAt hl := ⟨_, rfl⟩
  rw [← hh] at hH a9 ⊢
  replace hh := hide hh
  have hAC := hide (fun (wx w8 : World) (w0 : World) sb gc gp gd gh ec hc wc ae ha aw (hM : AMade w0 n (t : Int) es h ws sb gc gp gd gh es.length ec hc ws.length wc ae ha aw wx) (hb : Below wx.heap.size wx w8) (u : Value) => hM.ac hb u ⟨a1, a2⟩ (fun u _ => a9 u) b3 ⟨rfl, b1, b2⟩ ⟨a4, a5, rfl, a3⟩)
  have hs0 := hide (aok_start (n := n) (v := v) (h := h))
  have hR := hide a4
  have hin0 := hide (show AInv n h (aStart h v) from ⟨aok_start, by unfold aStart; split <;> exact Nat.zero_le _, by unfold aStart; split <;> simp [lastWay], by unfold aStart; split <;> simp⟩)
  have hE := hide hE
  have hH := hide hH
  have hW := hide hW
  have hmk := fun w => run_zeros w n (by omega)
  have hmkB := fun w => run_zerosB w n (by omega)
  subst hm
  clear hlh a10 a11 a8 e1 e2 e3 h0 h1 a4 a5 hl2 hel a9 b3
  go_enter Try.func23, Try.ntmps23
  go_wp2_with fail
  refine (hC.out _ (by exact bel)).mono ?_
  rintro e w1 ⟨rfl, hb1⟩
  have k0 := cu_below hb1 (p := ⟨w.heap.size, 0, none⟩) (v := .int .i64 (n : Int)) (by simp [go_sem]) (by simp)
  have k1 := cu_below hb1 (p := ⟨w.heap.size, 1, none⟩) (v := .slice a es.length cap) (by simp [go_sem]) (by simp)
  have hb2 := hide (((bel : Below w.heap.size w _)).trans (hb1.mono (by simp)))
  have hz1 : w.heap.size < w1.heap.size := cell_lt k0
  clear hb1
  go_wp2_with fail
  refine (hD.out _ hb2.out).mono ?_
  rintro e w2 ⟨rfl, hb3⟩
  have k0 := cu_below hb3 k0 hz1
  have k1 := cu_below hb3 k1 hz1
  have hb4 := hide (hb2.out.trans (hb3.mono hb2.out.size))
  have hz2 : w.heap.size < w2.heap.size := cell_lt k0
  clear hb2 hb3 hC hD hz1
  have hrowE := hide ((hE.out.below hb4.out hB).mono (show B ≤ w2.heap.size by omega))
  have hrowH := hide ((hH.out.below hb4.out hB).mono (show B ≤ w2.heap.size by omega))
  have hrowW := hide ((hW.out.below hb4.out hB).mono (show B ≤ w2.heap.size by omega))
  have key0 := hide (show ∀ w', Below w2.heap.size w2 w' → (Below w2.heap.size w2 w' ∧ w'.cell? ⟨w.heap.size, 0, none⟩ = some (.int .i64 (n : Int)) ∧ w'.cell? ⟨w.heap.size, 1, none⟩ = some (.slice a es.length cap) ∧ w2.heap.size ≤ w'.heap.size) from
    fun w' hb => ⟨hb, cu_below hb k0 hz2, cu_below hb k1 hz2, hb.size⟩)
  clear hE hH hW
  go_upto_region 7 with fail
  clear k0 k1
  go_cut [14] (fun s14 wx => MidA w2 n (t : Int) es h ws s14 wx)
  case first =>
    clear hAC hs0 hR hin0
    refine wp_region_inv 17 (by kernel_rfl) [some 29, some 30, some 31, some 32, some 33, some 34, some 35, some 36, some 37, some 38, some 39, some 40, some 41, some 42, some 43, some 44, some 45] (FNw w2 n (t : Int) es h ws (.agg #[.int .i64 (n : Int), .slice a es.length cap]) (.slice ah n ch) (.slice aw ws.length cw) w.heap.size) (fun w' => Below w2.heap.size w2 w' ∧ w'.cell? ⟨w.heap.size, 0, none⟩ = some (.int .i64 (n : Int)) ∧ w'.cell? ⟨w.heap.size, 1, none⟩ = some (.slice a es.length cap) ∧ w2.heap.size ≤ w'.heap.size) (fun w w' => Below w.heap.size w w') (by kernel_rfl) (by kernel_rfl) (by kernel_rfl) (by kernel_rfl) (fnw_stays) (fun _ _ h => h.size) (key0.out _ (below_drew _)) ?steps ?hend
    case steps =>
      refine ⟨?_, ?_, ?_, ?_, ?_, ?_, ?_, ?_, ?_, ?_, ?_, ?_, ?_, ?_, ?_, ?_, ?_, trivial⟩
      · intro X L H wI hS hd K hK
        have hS0 := hide hS
        (try dsimp only at hS)
        simp only [putAll, Act.put, List.setIfInBounds_toArray, List.set_cons_zero, List.set_cons_succ]
        go_simp
        refine hK _ _ wI.heap.size wI.heap.size _ ?_ (Nat.le_refl _) (Nat.le_refl _) (Nat.le_refl _) (Below.refl _ _) hS0.out rfl
        simp only [putAll, Act.put, List.setIfInBounds_toArray, List.set_cons_zero, List.set_cons_succ]
      · intro X L H wI hS hd K hK
        (try have h0 : X 0 = _ := hd 0 (by kernel_rfl))
        have hS0 := hide hS
        (try dsimp only at hS)
        simp only [putAll, Act.put, List.setIfInBounds_toArray, List.set_cons_zero, List.set_cons_succ]
        (go_simp; go_at_call 34; refine (copy_any (n : Int) a cap es _ w2.heap.size hS0.out.2.2.2 (hrowE.out.below hS0.out.1 (Nat.le_refl _)) (by omega)).mono ?_; rintro e wB ⟨vB, rfl, oB, hbB⟩; obtain ⟨aB, cB, rfl⟩ := oB.shape rfl; exact hK _ _ wI.heap.size wB.heap.size _ (by simp only [putAll, Act.put, List.setIfInBounds_toArray, List.set_cons_zero, List.set_cons_succ, h0]) (Nat.le_refl _) hbB.size (Nat.le_refl _) hbB (key0.out _ (hS0.out.1.trans (hbB.mono hS0.out.2.2.2))) ⟨aB, cB, rfl, oB, fun j hj => (oB.block_lt j hj).2, hS0.out.2.2.2⟩)
      · intro X L H wI hS hd K hK
        have hS0 := hide hS
        (try dsimp only at hS)
        simp only [putAll, Act.put, List.setIfInBounds_toArray, List.set_cons_zero, List.set_cons_succ]
        go_simp
        refine hK _ _ wI.heap.size wI.heap.size _ ?_ (Nat.le_refl _) (Nat.le_refl _) (Nat.le_refl _) (Below.refl _ _) hS0.out rfl
        simp only [putAll, Act.put, List.setIfInBounds_toArray, List.set_cons_zero, List.set_cons_succ]
      · intro X L H wI hS hd K hK
        have hS0 := hide hS
        (try dsimp only at hS)
        simp only [putAll, Act.put, List.setIfInBounds_toArray, List.set_cons_zero, List.set_cons_succ]
        go_simp
        refine hK _ _ wI.heap.size wI.heap.size _ ?_ (Nat.le_refl _) (Nat.le_refl _) (Nat.le_refl _) (Below.refl _ _) hS0.out rfl
        simp only [putAll, Act.put, List.setIfInBounds_toArray, List.set_cons_zero, List.set_cons_succ]
      · intro X L H wI hS hd K hK
        (try have h3 : X 3 = _ := hd 3 (by kernel_rfl))
        have hS0 := hide hS
        (try dsimp only at hS)
        simp only [putAll, Act.put, List.setIfInBounds_toArray, List.set_cons_zero, List.set_cons_succ]
        (refine wp_pushAll (enc := encI) (v := .slice none 0 0) (xs := []) (base := wI.heap.size) (.const (.slice none 0 0)) (.tmp 32) 22 rfl _ 8 Try.underlying22 info_int rfl (by omega) lenI oneI 0 rfl rfl (Own.nil _ _) w2.heap.size ah n ch (LI n h) (li_len _ _) (by simp [Act.eval, h3]) (hrowH.out.below hS0.out.1 (Nat.le_refl _)) (by omega) (by unfold maxLen; omega) (Nat.le_refl _) ?_; intro aq kq wq oq hbq _; simp only [List.nil_append, Nat.zero_add] at oq ⊢; exact hK _ _ wI.heap.size wq.heap.size _ (by simp only [putAll, Act.put, List.setIfInBounds_toArray, List.set_cons_zero, List.set_cons_succ, h3]) (Nat.le_refl _) hbq.size (Nat.le_refl _) hbq (key0.out _ (hS0.out.1.trans (hbq.mono hS0.out.2.2.2))) ⟨aq, kq, rfl, oq, fun j hj => (oq.block_lt j hj).2, hS0.out.2.2.2⟩)
      · intro X L H wI hS hd K hK
        have hS0 := hide hS
        (try dsimp only at hS)
        simp only [putAll, Act.put, List.setIfInBounds_toArray, List.set_cons_zero, List.set_cons_succ]
        go_simp
        refine hK _ _ wI.heap.size wI.heap.size _ ?_ (Nat.le_refl _) (Nat.le_refl _) (Nat.le_refl _) (Below.refl _ _) hS0.out rfl
        simp only [putAll, Act.put, List.setIfInBounds_toArray, List.set_cons_zero, List.set_cons_succ]
      · intro X L H wI hS hd K hK
        (try have h5 : X 5 = _ := hd 5 (by kernel_rfl))
        have hS0 := hide hS
        (try dsimp only at hS)
        simp only [putAll, Act.put, List.setIfInBounds_toArray, List.set_cons_zero, List.set_cons_succ]
        (refine wp_pushAll (enc := encP) (v := .slice none 0 0) (xs := []) (base := wI.heap.size) (.const (.slice none 0 0)) (.tmp 34) 26 rfl _ 16 Try.underlying26 info_ratioN rfl (by omega) lenP oneP 0 rfl rfl (Own.nil _ _) w2.heap.size aw ws.length cw ws rfl (by simp [Act.eval, h5]) (hrowW.out.below hS0.out.1 (Nat.le_refl _)) (by omega) (by unfold maxLen; omega) (Nat.le_refl _) ?_; intro aq kq wq oq hbq _; simp only [List.nil_append, Nat.zero_add] at oq ⊢; exact hK _ _ wI.heap.size wq.heap.size _ (by simp only [putAll, Act.put, List.setIfInBounds_toArray, List.set_cons_zero, List.set_cons_succ, h5]) (Nat.le_refl _) hbq.size (Nat.le_refl _) hbq (key0.out _ (hS0.out.1.trans (hbq.mono hS0.out.2.2.2))) ⟨aq, kq, rfl, oq, fun j hj => (oq.block_lt j hj).2, hS0.out.2.2.2⟩)
      · intro X L H wI hS hd K hK
        have hS0 := hide hS
        (try dsimp only at hS)
        simp only [putAll, Act.put, List.setIfInBounds_toArray, List.set_cons_zero, List.set_cons_succ]
        go_simp
        refine hK _ _ wI.heap.size wI.heap.size _ ?_ (Nat.le_refl _) (Nat.le_refl _) (Nat.le_refl _) (Below.refl _ _) hS0.out rfl
        simp only [putAll, Act.put, List.setIfInBounds_toArray, List.set_cons_zero, List.set_cons_succ]
      · intro X L H wI hS hd K hK
        have h7 : X 7 = _ := hd 7 (by kernel_rfl)
        have hS0 := hide hS
        (try dsimp only at hS)
        simp only [putAll, Act.put, List.setIfInBounds_toArray, List.set_cons_zero, List.set_cons_succ]
        go_simp
        refine hK _ _ wI.heap.size wI.heap.size _ ?_ (Nat.le_refl _) (Nat.le_refl _) (Nat.le_refl _) (Below.refl _ _) hS0.out rfl
        simp only [putAll, Act.put, List.setIfInBounds_toArray, List.set_cons_zero, List.set_cons_succ, h7]
      · intro X L H wI hS hd K hK
        (try have h8 : X 8 = _ := hd 8 (by kernel_rfl))
        have hS0 := hide hS
        (try dsimp only at hS)
        simp only [putAll, Act.put, List.setIfInBounds_toArray, List.set_cons_zero, List.set_cons_succ]
        (go_simp; exact hK _ _ wI.heap.size (wI.heap.size + 1) _ (by simp only [putAll, Act.put, List.setIfInBounds_toArray, List.set_cons_zero, List.set_cons_succ, h8]) (Nat.le_refl _) (by omega) (by simp) ((Below.refl _ _).alloc (Nat.le_refl _) _) (key0.out _ (hS0.out.1.alloc hS0.out.2.2.2 _)) ⟨rfl, by omega, hS0.out.2.2.2, own_zeros _ _ _ hS0.out.2.2.2 (by omega)⟩)
      · intro X L H wI hS hd K hK
        have hS0 := hide hS
        (try dsimp only at hS)
        simp only [putAll, Act.put, List.setIfInBounds_toArray, List.set_cons_zero, List.set_cons_succ]
        go_simp
        refine hK _ _ wI.heap.size wI.heap.size _ ?_ (Nat.le_refl _) (Nat.le_refl _) (Nat.le_refl _) (Below.refl _ _) hS0.out rfl
        simp only [putAll, Act.put, List.setIfInBounds_toArray, List.set_cons_zero, List.set_cons_succ]
      · intro X L H wI hS hd K hK
        have h10 : X 10 = _ := hd 10 (by kernel_rfl)
        have hS0 := hide hS
        (try dsimp only at hS)
        simp only [putAll, Act.put, List.setIfInBounds_toArray, List.set_cons_zero, List.set_cons_succ]
        go_simp
        refine hK _ _ wI.heap.size wI.heap.size _ ?_ (Nat.le_refl _) (Nat.le_refl _) (Nat.le_refl _) (Below.refl _ _) hS0.out rfl
        simp only [putAll, Act.put, List.setIfInBounds_toArray, List.set_cons_zero, List.set_cons_succ, h10]
      · intro X L H wI hS hd K hK
        (try have h11 : X 11 = _ := hd 11 (by kernel_rfl))
        have hS0 := hide hS
        (try dsimp only at hS)
        simp only [putAll, Act.put, List.setIfInBounds_toArray, List.set_cons_zero, List.set_cons_succ]
        (go_simp; exact hK _ _ wI.heap.size (wI.heap.size + 1) _ (by simp only [putAll, Act.put, List.setIfInBounds_toArray, List.set_cons_zero, List.set_cons_succ, h11]) (Nat.le_refl _) (by omega) (by simp) ((Below.refl _ _).alloc (Nat.le_refl _) _) (key0.out _ (hS0.out.1.alloc hS0.out.2.2.2 _)) ⟨rfl, by omega, hS0.out.2.2.2, own_zeros _ _ _ hS0.out.2.2.2 (by omega)⟩)
      · intro X L H wI hS hd K hK
        have hS0 := hide hS
        (try dsimp only at hS)
        simp only [putAll, Act.put, List.setIfInBounds_toArray, List.set_cons_zero, List.set_cons_succ]
        go_simp
        refine hK _ _ wI.heap.size wI.heap.size _ ?_ (Nat.le_refl _) (Nat.le_refl _) (Nat.le_refl _) (Below.refl _ _) hS0.out rfl
        simp only [putAll, Act.put, List.setIfInBounds_toArray, List.set_cons_zero, List.set_cons_succ]
      · intro X L H wI hS hd K hK
        have h13 : X 13 = _ := hd 13 (by kernel_rfl)
        have hS0 := hide hS
        (try dsimp only at hS)
        simp only [putAll, Act.put, List.setIfInBounds_toArray, List.set_cons_zero, List.set_cons_succ]
        go_simp
        refine hK _ _ wI.heap.size wI.heap.size _ ?_ (Nat.le_refl _) (Nat.le_refl _) (Nat.le_refl _) (Below.refl _ _) hS0.out rfl
        simp only [putAll, Act.put, List.setIfInBounds_toArray, List.set_cons_zero, List.set_cons_succ, h13]
      · intro X L H wI hS hd K hK
        (try have h14 : X 14 = _ := hd 14 (by kernel_rfl))
        have hS0 := hide hS
        (try dsimp only at hS)
        simp only [putAll, Act.put, List.setIfInBounds_toArray, List.set_cons_zero, List.set_cons_succ]
        (go_simp; exact hK _ _ wI.heap.size (wI.heap.size + 1) _ (by simp only [putAll, Act.put, List.setIfInBounds_toArray, List.set_cons_zero, List.set_cons_succ, h14]) (Nat.le_refl _) (by omega) (by simp) ((Below.refl _ _).alloc (Nat.le_refl _) _) (key0.out _ (hS0.out.1.alloc hS0.out.2.2.2 _)) ⟨rfl, by omega, hS0.out.2.2.2, by rw [← lb_ordB]; exact own_zerosB _ _ _ hS0.out.2.2.2 (by omega)⟩)
      · intro X L H wI hS hd K hK
        have hS0 := hide hS
        (try dsimp only at hS)
        simp only [putAll, Act.put, List.setIfInBounds_toArray, List.set_cons_zero, List.set_cons_succ]
        (go_simp; go_at_call 35; refine (newT_any 36 _).mono ?_; rintro e w3 ⟨rfl, rfl⟩; exact hK _ _ wI.heap.size (wI.heap.size + 1) _ (by simp only [putAll, Act.put, List.setIfInBounds_toArray, List.set_cons_zero, List.set_cons_succ]) (Nat.le_refl _) (by omega) (by simp) ((Below.refl _ _).alloc (Nat.le_refl _) _) (key0.out _ (hS0.out.1.alloc hS0.out.2.2.2 _)) ⟨rfl, by omega, hS0.out.2.2.2, HeapT.fresh _ _ _ _⟩)
    case hend =>
      intro X L H wI hS hF hP
      (obtain ⟨qa1, qc1, f1, o1, l1, u1⟩ := (hF 1 (by omega)).1; have f2 : X 2 = _ := (hF 2 (by omega)).1; obtain ⟨qa4, qc4, f4, o4, l4, u4⟩ := (hF 4 (by omega)).1; obtain ⟨qa6, qc6, f6, o6, l6, u6⟩ := (hF 6 (by omega)).1; obtain ⟨f9, l9, u9, o9⟩ := (hF 9 (by omega)).1; obtain ⟨f12, l12, u12, o12⟩ := (hF 12 (by omega)).1; obtain ⟨f15, l15, u15, o15⟩ := (hF 15 (by omega)).1; obtain ⟨f16, l16, u16, o16⟩ := (hF 16 (by omega)).1; have z1 := (hF 1 (by omega)).2; have z4 := (hF 4 (by omega)).2; have z6 := (hF 6 (by omega)).2; have z9 := (hF 9 (by omega)).2; have z12 := (hF 12 (by omega)).2; have z15 := (hF 15 (by omega)).2; have z16 := (hF 16 (by omega)).2; have hS' := hide hS; have hP' := hide hP; clear hS hF hP; replace o1 := hide o1; replace o4 := hide o4; replace o6 := hide o6; replace o9 := hide o9; replace o12 := hide o12; replace o15 := hide o15; replace o16 := hide o16; replace l1 := hide l1; replace l4 := hide l4; replace l6 := hide l6)
      simp only [putAll, Act.put, List.setIfInBounds_toArray, List.set_cons_zero, List.set_cons_succ, f1, f2, f4, f6, f9, f12, f15, f16]
      change wpAny _ _ _ _ (2 + 1) _ _ _
      refine wpAny_ready (rs := [17]) (by kernel_rfl) (by simp) (AllReady.cons rfl (fun K hK => ?_) AllReady.nil)
      go_simp
      refine hK _ _ ?_
      clear hK K
      change wpAny _ _ _ _ (1 + 1) _ _ _
      refine wpAny_ready (rs := [18]) (by kernel_rfl) (by simp) (AllReady.cons rfl (fun K hK => ?_) AllReady.nil)
      go_simp
      refine hK _ _ ?_
      clear hK K
      change wpAny _ _ _ _ (0 + 1) _ _ _
      refine wpAny_ready (rs := [19]) (by kernel_rfl) (by simp) (AllReady.cons rfl (fun K hK => ?_) AllReady.nil)
      go_simp
      refine hK _ _ ?_
      clear hK K
      refine wpAny_done (by kernel_rfl) ?_ _
      go_wp2_with fail
      go_meet
      case rel =>
        have hb := (Below.refl wI.heap.size wI).alloc (Nat.le_refl _) (.cells #[.int .i64 (n : Int), .slice qa1 es.length qc1, .slice none 0 0, .int .i64 (t : Int), .slice qa4 n qc4, .slice qa6 ws.length qc6, .slice (some ⟨L 9, 0, none⟩) n n, .slice (some ⟨L 12, 0, none⟩) n n, .slice (some ⟨L 15, 0, none⟩) n n, .slice none 0 0, .pointer (some ⟨L 16, 0, none⟩), .int .i64 0, .slice none 0 0] 87)
        have hsz := hS'.out.2.2.2
        have p1_9 := hP'.out 1 9 (by omega) (by omega) (by omega)
        have p1_12 := hP'.out 1 12 (by omega) (by omega) (by omega)
        have p1_15 := hP'.out 1 15 (by omega) (by omega) (by omega)
        have p1_16 := hP'.out 1 16 (by omega) (by omega) (by omega)
        have p4_9 := hP'.out 4 9 (by omega) (by omega) (by omega)
        have p4_12 := hP'.out 4 12 (by omega) (by omega) (by omega)
        have p4_15 := hP'.out 4 15 (by omega) (by omega) (by omega)
        have p4_16 := hP'.out 4 16 (by omega) (by omega) (by omega)
        have p6_9 := hP'.out 6 9 (by omega) (by omega) (by omega)
        have p6_12 := hP'.out 6 12 (by omega) (by omega) (by omega)
        have p6_15 := hP'.out 6 15 (by omega) (by omega) (by omega)
        have p6_16 := hP'.out 6 16 (by omega) (by omega) (by omega)
        have p9_12 := hP'.out 9 12 (by omega) (by omega) (by omega)
        have p9_15 := hP'.out 9 15 (by omega) (by omega) (by omega)
        have p9_16 := hP'.out 9 16 (by omega) (by omega) (by omega)
        have p12_15 := hP'.out 12 15 (by omega) (by omega) (by omega)
        have p12_16 := hP'.out 12 16 (by omega) (by omega) (by omega)
        have p15_16 := hP'.out 15 16 (by omega) (by omega) (by omega)
        refine ⟨wI.heap.size, L 9, L 12, L 15, L 16, qc1, qc4, qc6, qa1, qa4, qa6, rfl, ⟨by simp [go_sem], by simp [go_sem], by simp [go_sem], by simp [go_sem], by simp [go_sem], by simp [go_sem], by simp [go_sem], by simp [go_sem], by simp [go_sem], by simp [go_sem], by simp [go_sem], by simp [go_sem], by simp [go_sem], fun o => by simp [go_sem], o9.out.stays hb, o12.out.stays hb, o15.out.stays hb, o16.out.stays hb, (o1.out.stays hb).base_le u1, (o4.out.stays hb).base_le u4, (o6.out.stays hb).base_le u6, hS'.out.1.trans (hb.mono hsz), ⟨hsz, u9, u12, u15, u16⟩, by simp; omega, by omega, fun j hj hc => ?_, fun j hj hc => ?_, fun j hj hc => ?_⟩⟩
        · have h1 := (o1.out.block_lt j hj)
          have h2 := l1.out j hj
          unfold AXb at hc
          omega
        · have h1 := (o4.out.block_lt j hj)
          have h2 := l4.out j hj
          unfold AXb at hc
          omega
        · have h1 := (o6.out.block_lt j hj)
          have h2 := l6.out j hj
          unfold AXb at hc
          omega
  case rest =>
    clear hmk hmkB key0 hrowE hrowH hrowW
    obtain ⟨sb, gc, gp, gd, gh, ec, hc, wcc, ae, ha, aw2, rfl, hM⟩ := hcut
    have c0 := hM.c0
    have c1 := hM.c1
    have c2 := hM.c2
    have z0 := cell_lt c0
    simp only at z0
    have f2 := hM.fz 2
    obtain ⟨ae', ec', hev, hrE, -, -⟩ := hM.eo.row lenE
    cases hev
    have hOu := hide (outs_any n ae ec es wc wc.heap.size (Nat.le_refl _) hrE a2 (by omega) (fun e he => by have := hR.out e he; omega))
    replace hM := hide hM
    clear hrE
    go_wp2_with fail
    refine hOu.out.mono ?_
    rintro e w8 ⟨O, rfl, oO, hb8⟩
    have c2 := cu_below hb8 c2 z0
    have f2 := fu_below hb8 f2 z0
    have z8 : sb < w8.heap.size := cell_lt c2
    clear c0 c1 hOu
    go_upto_region 9 with fail
    obtain ⟨wS, hwS⟩ : ∃ wS, wS = w8.setCell ⟨sb, 2, none⟩ (.slice (some ⟨O, 0, none⟩) n n) := ⟨_, rfl⟩
    have hX0 := hide (show AX n sb gc gp gd gh (.slice ae es.length ec) (.slice (some ⟨O, 0, none⟩) n n) (.slice ha n hc) (.slice aw2 ws.length wcc) (t : Int) (.slice none 0 0) 0 (fun _ => ⟨0, 0, 0⟩) (.slice none 0 0) [] (.slice none 0 0) [] a00 wS wS by rw [hwS]; exact hM.out.ax hb8 O)
    have hC := hide (show AC n sb gc gp gd gh hc ws.length wcc es.length ec ha aw2 ae h ws es wS by rw [hwS]; exact hAC.out wc w8 w2 sb gc gp gd gh ec hc wcc ae ha aw2 hM.out hb8 _)
    have hOut := hide (show OutsAt wS wc.heap.size w8.heap.size O n es by rw [hwS]; exact (OutsAt.made oO).later ((Keep.refl (fun j => j = sb) w8).setCell (p := ⟨sb, 2, none⟩) (.inl rfl) _) (fun k h1 h2 e => by have e2 : k = sb := e; omega))
    have hdis := hide (show ∀ k, wc.heap.size ≤ k → k < w8.heap.size → ¬ AXb sb gc gp gd gh k from fun k h1 h2 h3 => by have := hM.out.lt; unfold AXb at h3; omega)
    have hBel := hide (show ∀ wz, Keep (AXb sb gc gp gd gh) wS wz → Below w.heap.size w wz from fun wz hk => by
      have h1 := hM.out.below
      have h2 := hM.out.low
      have h3 : Below w2.heap.size w2 wS := by rw [hwS]; exact (h1.trans (hb8.mono h1.size)).setCell (show w2.heap.size ≤ sb by omega) _
      have h4 := hk.toBelow (B := w2.heap.size) (fun j hj => by unfold AXb at hj; omega) h3.size
      exact hb4.out.trans ((h3.trans h4).mono hb4.out.size))
    have hLow := hide (show (∀ j, AXb sb gc gp gd gh j → w.heap.size ≤ j) ∧ (∀ j, CB es ae ha aw2 j → w.heap.size ≤ j ∧ j < wS.heap.size) ∧ w.heap.size ≤ wc.heap.size ∧ (∀ b o, ae = some ⟨b, o, none⟩ → ¬ AXb sb gc gp gd gh b) from by
      have h1 := hM.out.low
      have h2 := hb4.out.size
      have h3 : wc.heap.size ≤ wS.heap.size := by rw [hwS]; simpa using hb8.size
      refine ⟨fun j hj => by unfold AXb at hj; omega, fun j hj => ?_, Nat.le_trans h2 hM.out.below.size, fun b o e => hM.out.ex b (by rw [e]; rfl)⟩
      rcases hj with ⟨_, o, e⟩ | ⟨o, e⟩ | ⟨o, e⟩
      · have := hM.out.eo.block_lt j (by rw [e]; rfl); omega
      · have := hM.out.ho.block_lt j (by rw [e]; rfl); omega
      · have := hM.out.wo.block_lt j (by rw [e]; rfl); omega)
    simp only [← hwS]
    clear hwS hM hAC hb4 hb8 oO c2 f2
    have c6 := hX0.out.c6
    have hX1 := hide (show AX n sb gc gp gd gh (.slice ae es.length ec) (.slice (some ⟨O, 0, none⟩) n n) (.slice ha n hc) (.slice aw2 ws.length wcc) (t : Int) (.slice none 0 0) 0 (fun _ => ⟨0, 0, 0⟩) (.slice none 0 0) [] (.slice none 0 0) [] ⟨first 0 (fun _ => FAR) (fun _ => 0), first 0 (fun _ => -1) (fun _ => 0), fun _ => false, fun _ => false, fun _ => false, 0, []⟩ wS wS by rw [first_zero, first_zero]; exact hX0.out)
    clear hX0
    go_wp2
    go_loopw [61] (fun i wr => ∃ k : Nat, k ≤ n ∧ i = .int .i64 (k : Int) ∧ Hid (AX n sb gc gp gd gh (.slice ae es.length ec) (.slice (some ⟨O, 0, none⟩) n n) (.slice ha n hc) (.slice aw2 ws.length wcc) (t : Int) (.slice none 0 0) 0 (fun _ => ⟨0, 0, 0⟩) (.slice none 0 0) [] (.slice none 0 0) [] ⟨first k (fun _ => FAR) (fun _ => 0), first k (fun _ => -1) (fun _ => 0), fun _ => false, fun _ => false, fun _ => false, 0, []⟩ wS wr)) (fun i _ => n - (intOf i).toNat)
    case atStart => exact ⟨0, Nat.zero_le _, rfl, hX1⟩
    case round =>
      clear hX1 c6
      obtain ⟨k, hk, rfl, hX⟩ := hrel
      have hne' := hX.out.ne
      by_cases hlt : k < n
      · have k6 := hX.out.c6
        have k7 := hX.out.c7
        have kc := hX.out.cost.atI k hlt
        have kp := hX.out.pred.atI k hlt
        have fc := hX.out.cost.free k
        have fp := hX.out.pred.free k
        have hX2 := (hX.out.setC k hlt FAR).setP k hlt (-1)
        simp only [first_step k (fun _ => FAR) (fun _ => 0), first_step k (fun _ => (-1 : Int)) (fun _ => 0)] at hX2
        replace hX2 := hide hX2
        have ik : (0 : Int) ≤ (k : Int) ∧ (k : Int) < (n : Int) := by omega
        generalize (first k (fun _ => FAR) (fun _ => 0)) k = y1 at kc
        generalize (first k (fun _ => (-1 : Int)) (fun _ => 0)) k = y2 at kp
        unfold FAR at hX2
        go_wp2
        go_region
        go_wp2
        go_roundw
        case rel => exact ⟨k + 1, by omega, by go_num, by unfold FAR; first | exact hX2 | exact hide (hX2.out.stays (below_drew _))⟩
        case measure => simp [intOf]; omega
      · obtain rfl : n = k := by omega
        have hXs := hide (hX.out.recost a01 (by rw [first_all]; rfl) (by rw [first_all]; rfl) rfl rfl rfl)
        have hr : ws[0]? = some (ws[0]'(by omega)) := List.getElem?_eq_getElem _
        have hreach := hide (areach_any v 0 (-1) _ hr hXs.out hC.out a6 (by omega) (by omega) (by omega) rfl (by omega) (fun u => .inl rfl) (fun u hu => by cases hu) (fun i h1 h2 => by omega) ⟨fun p hp => by simp [RW] at hp, fun u hu hw => by cases hw⟩ (fun u => ⟨(fun e => by cases e), (fun e => by cases e)⟩))
        rw [areach_start] at hreach
        clear hX
        go_wp2_with fail
        refine hreach.out.mono ?_
        rintro e w4 ⟨rfl, q4, m4, c4, f4, al, ll, lc, ls, hX4, hq4, hll4, hlq4, hok4, hh4, hla4⟩
        have hln4 : ∀ u ∈ ls, u < n := fun u hu => by
          have h1 := (hla4 u).2 hu
          exact hs0.out.lk u (hs0.out.la u h1).2
        have htold : (aStart h v).told = [] := by unfold aStart; split <;> rfl
        have hSet := hide (asettle_any t a7 (⟨q4, m4, c4, f4, al, ll, lc, ls, none, 0, 0, [], hX4, by rw [htold]; rfl, by omega, hll4, by omega, hok4, fun r2 hr2 => (by rw [htold] at hr2; have e2 : ws[0]? = some r2 := hr2; rw [hr] at e2; cases e2; exact hh4), hla4, hln4, fun e => by cases e⟩ : ASt n sb gc gp gd gh (.slice ae es.length ec) (.slice (some ⟨O, 0, none⟩) n n) (.slice ha n hc) (.slice aw2 ws.length wcc) (t : Int) es h ws false (aStart h v) wS w4) hC.out hs0.out (by unfold aStart; split <;> exact Nat.zero_le _) hin0.out.lw (by rw [htold]; exact Nat.zero_le _))
        clear hX4 hq4 hll4 hlq4 hok4 hh4 hla4 hln4 hreach hXs hr
        go_wp2_with fail
        refine hSet.out.mono ?_
        rintro e w6 ⟨rfl, s', sx', hset, hx1, hx2, hx3, hASt⟩
        have hfin := hide (show NewAns n t es h ws v w (.returned (.tuple #[.pointer (some ⟨sb, 0, none⟩), .int .i64 0])) w6 from ⟨sb, gc, gp, gd, gh, ec, hc, wcc, ae, ha, aw2, O, wc.heap.size, w8.heap.size, wS, s', rfl, hC.out, hOut.out, hdis.out, hset, ⟨sx', hx1, hx2, hx3, hASt⟩, ainv_settle hset a7 a2 hin0.out, (settle_told hset (by rw [htold]; exact Nat.zero_le _)).1, hBel.out, hLow.out⟩)
        clear hset hx1 hx2 hx3 hASt hSet hC hOut hdis hBel
        go_wp2
        refine bodyPost_ret (v := .tuple #[.pointer (some ⟨sb, 0, none⟩), .int .i64 0]) (by simp [results, Try.results23, go_sem]) rfl ?_
        exact hfin.out
end Go.Proofs.Ytccailcjclbhlaa

/-! A search by rounds: what Rounds and Run return. Conditions: the object reads as AX says. -/
namespace Go.Proofs.Ytccailcjclbhlaa
open Go.RowKit
set_option linter.unusedSimpArgs false
set_option linter.unusedVariables false
/-- rounds that a call made: the slice, the ways told -/
def RoundsAt (base : Nat) (wr : World) (v : Value) (told : List RD) : Prop :=
  ∃ ros, Own encR 5 53 wr base v ros ∧ Told wr base ros told ∧ ∀ j, Pathb ros j → v.ownBlock ≠ some j
section
variable [AFr]
variable {n sb gc gp gd gh k t rc : Nat} {ar : Option Addr} {ev ov hv wv v : Value} {tg : Int} {f : Nat → Ed} {lv : Value} {ls : List Nat} {ros : List RV} {s : AS} {wS w : World}
set_option maxRecDepth 100000 in
set_option maxHeartbeats 4000000 in
theorem arounds_any (hX : AX n sb gc gp gd gh ev ov hv wv tg v k f lv ls (.slice ar t rc) ros s wS w) (hlp : ∀ r ∈ s.told, r.path.length ≤ 64) (ht8 : t ≤ 8) :
    Calls Try.prog 21 #[.pointer (some ⟨sb, 0, none⟩)] w fun e w' => ∃ a c, e = .returned (.slice a t c) ∧ RoundsAt w.heap.size w' (.slice a t c) s.told ∧ Below w.heap.size w w' := by
  have c12 := hX.c12
  have hros : ros.length = t := by
    have h1 := hX.rnds.row lenR
    obtain ⟨a', c', hv', _⟩ := h1
    simp only [Value.slice.injEq] at hv'
    exact hv'.2.1.symm
  have htl : s.told.length = t := by rw [← hX.told.1]; exact hros
  have zs := cell_lt c12
  simp only at zs
  replace hX := hide hX
  replace hlp := hide hlp
  replace hros := hide hros
  replace htl := hide htl
  have hR0 := hide (show RoundsAt w.heap.size w (.slice none 0 0) (s.told.take 0) from ⟨[], Own.nil _ _, ⟨rfl, fun i hi => by simp at hi⟩, fun j hj => by obtain ⟨r, hr, _⟩ := hj; simp at hr⟩)
  have hb0 := hide (Below.refl w.heap.size w)
  go_enter Try.func21, Try.ntmps21
  go_wp2
  go_loopw [3, 11] (fun s3 i wr => ∃ (k : Nat) (av : Option Addr) (cv : Nat), k ≤ t ∧ i = .int .i64 (k : Int) ∧ s3 = .slice av k cv ∧ Hid (RoundsAt w.heap.size wr (.slice av k cv) (s.told.take k)) ∧ Hid (Below w.heap.size w wr)) (fun _ i _ => t - (intOf i).toNat)
  case atStart => exact ⟨0, none, 0, Nat.zero_le _, rfl, rfl, hR0, hb0⟩
  case round =>
    clear hR0 hb0 c12
    obtain ⟨k, av, cv, hk, rfl, rfl, hR, hb⟩ := hrel
    by_cases hlt : k < t
    · have hkt : k < s.told.length := by rw [htl.out]; exact hlt
      have hkr : k < ros.length := by rw [hros.out]; exact hlt
      obtain ⟨r, r1, g1, g2, g3, g4, g5, g6⟩ := hX.out.told.2 k hkt
      have hre : ros[k] = r := (List.getElem?_eq_some_iff.1 r1).2
      obtain ⟨ga, hga⟩ : ∃ ga, ar = some ⟨ga, 0, none⟩ ∧ ga < w.heap.size := by
        rcases hX.out.rnds.form with ⟨h8, h9⟩ | ⟨g, cap, h8, _, h10, _⟩
        · rw [h9] at hkr; simp at hkr
        · simp only [Value.slice.injEq] at h8
          exact ⟨g, h8.1, h10⟩
      obtain ⟨rfl, hgz⟩ := hga
      have hget := fun j u hj => hX.out.rnds.get lenR k hkr j u hj
      rw [hre] at hget
      have q0 : wr.cell? ⟨ga, k * 5, none⟩ = some (.int .i64 r.na) := cu_below hb.out (hget 0 _ rfl) hgz
      have q1 : wr.cell? ⟨ga, k * 5 + 1, none⟩ = some (.int .i64 r.nb) := cu_below hb.out (hget 1 _ rfl) hgz
      have q2 : wr.cell? ⟨ga, k * 5 + 2, none⟩ = some (.slice r.pa r.pm r.pc) := cu_below hb.out (hget 2 _ rfl) hgz
      have q3 : wr.cell? ⟨ga, k * 5 + 3, none⟩ = some (.int .i64 r.rc) := cu_below hb.out (hget 3 _ rfl) hgz
      have q4 : wr.cell? ⟨ga, k * 5 + 4, none⟩ = some (.int .i64 r.dn) := cu_below hb.out (hget 4 _ rfl) hgz
      have hgr := Nat.lt_of_lt_of_le hgz hb.out.size
      obtain ⟨a', c', hv', hrow, -⟩ := g6.row lenI
      simp only [Value.slice.injEq] at hv'
      obtain ⟨hv1, -, -⟩ := hv'
      subst hv1
      have hrow2 := hide (hrow.below hb.out (Nat.le_refl _))
      have hpl : r.pm ≤ 64 := by rw [g5]; exact hlp.out _ (List.getElem_mem hkt)
      have hpm := hide g5.symm
      obtain ⟨⟨ta, tb, tp, tc, td⟩, htk⟩ : ∃ x, x = s.told[k] := ⟨_, rfl⟩
      rw [← htk] at g1 g2 g3 g4 hpm hrow2
      have hstep := hide (show s.told.take (k + 1) = s.told.take k ++ [⟨ta, tb, tp, tc, td⟩] by rw [List.take_succ_eq_append_getElem hkt, ← htk])
      obtain ⟨na, nb, pa, pm, pc, rcc, dn⟩ := r
      simp only at q0 q1 q2 q3 q4 g1 g2 g3 g4 hpl hpm hrow2
      replace g1 := hide g1
      replace g2 := hide g2
      replace g3 := hide g3
      replace g4 := hide g4
      replace htk := hide htk
      have ik : (0 : Int) ≤ (k : Int) ∧ (k : Int) < (t : Int) := by omega
      clear hget g5 g6 hrow r1 hre
      go_upto_region 5 with fail
      obtain ⟨w2, hw2⟩ : ∃ w2, w2 = wr.alloc (.cells #[.int .i64 na, .int .i64 nb, .slice pa pm pc, .int .i64 rcc, .int .i64 dn] 53) := ⟨_, rfl⟩
      have hb2 : Below wr.heap.size wr w2 := by rw [hw2]; exact up_alloc (Below.refl _ _) (Nat.le_refl _)
      have hz2 : w2.heap.size = wr.heap.size + 1 := by rw [hw2]; simp
      have m0 : w2.cell? ⟨wr.heap.size, 0, none⟩ = some (.int .i64 na) := by rw [hw2]; simp [go_sem]
      have m1 : w2.cell? ⟨wr.heap.size, 1, none⟩ = some (.int .i64 nb) := by rw [hw2]; simp [go_sem]
      have m2 : w2.cell? ⟨wr.heap.size, 2, none⟩ = some (.slice pa pm pc) := by rw [hw2]; simp [go_sem]
      have m3 : w2.cell? ⟨wr.heap.size, 3, none⟩ = some (.int .i64 rcc) := by rw [hw2]; simp [go_sem]
      have m4 : w2.cell? ⟨wr.heap.size, 4, none⟩ = some (.int .i64 dn) := by rw [hw2]; simp [go_sem]
      have mf : w2.frozen? ⟨wr.heap.size, 2, none⟩ = false := by rw [hw2]; simp [go_sem]
      have hrow3 := hide ((hrow2.out.below hb2 (by have := hb.out.size; omega)).mono (show w.heap.size ≤ w2.heap.size by have := hb.out.size; omega))
      have hwsz := hb.out.size
      replace hb2 := hide hb2
      simp only [← hw2]
      clear hw2 q0 q1 q2 q3 q4 hrow2
      have zz : wr.heap.size < w2.heap.size := by omega
      go_upto_region 6 with (at_builtin; (refine wpList_all (enc := encI) (v := .slice none 0 0) (xs := []) (base := w2.heap.size) rfl (.const (.slice none 0 0)) (.tmp 17) 22 rfl _ 8 Try.underlying22 info_int rfl ?d1 lenI oneI 0 rfl rfl (Own.nil _ _) w2.heap.size pa pm pc tp ?d3 rfl hrow3.out ?d4 ?d5 ?d6 ?_); (case d1 => omega); (case d3 => exact hpm.out); (case d4 => omega); (case d5 => unfold maxLen; omega); (case d6 => exact Nat.le_refl _); intro a4 c4 w4 own4 hb4 hg4; simp only [List.nil_append, Nat.zero_add] at own4 ⊢; have m0 := cu_below hb4 m0 zz; have m1 := cu_below hb4 m1 zz; have m2 := cu_below hb4 m2 zz; have m3 := cu_below hb4 m3 zz; have m4 := cu_below hb4 m4 zz; have mf := fu_below hb4 mf zz; replace own4 := hide own4; replace hb4 := hide hb4; clear hg4)
      have hne4 : (Value.slice a4 pm c4).ownBlock ≠ some wr.heap.size := fun e => by have := (own4.out.block_lt _ e).1; omega
      have n0 : (w4.setCell ⟨wr.heap.size, 2, none⟩ (.slice a4 pm c4)).cell? ⟨wr.heap.size, 0, none⟩ = some (.int .i64 na) := cu_set_off m0 (by omega)
      have n1 : (w4.setCell ⟨wr.heap.size, 2, none⟩ (.slice a4 pm c4)).cell? ⟨wr.heap.size, 1, none⟩ = some (.int .i64 nb) := cu_set_off m1 (by omega)
      have n2 : (w4.setCell ⟨wr.heap.size, 2, none⟩ (.slice a4 pm c4)).cell? ⟨wr.heap.size, 2, none⟩ = some (.slice a4 pm c4) := World.cell?_setCell_same _ _ _ m2
      have n3 : (w4.setCell ⟨wr.heap.size, 2, none⟩ (.slice a4 pm c4)).cell? ⟨wr.heap.size, 3, none⟩ = some (.int .i64 rcc) := cu_set_off m3 (by omega)
      have n4 : (w4.setCell ⟨wr.heap.size, 2, none⟩ (.slice a4 pm c4)).cell? ⟨wr.heap.size, 4, none⟩ = some (.int .i64 dn) := cu_set_off m4 (by omega)
      have own5 := hide (own4.out.elsewhere (p := ⟨wr.heap.size, 2, none⟩) hne4 (.slice a4 pm c4))
      have hb5 := hide (show Below wr.heap.size wr (w4.setCell ⟨wr.heap.size, 2, none⟩ (.slice a4 pm c4)) from (hb2.out.trans (hb4.out.mono hb2.out.size)).setCell (Nat.le_refl _) _)
      generalize w4.setCell ⟨wr.heap.size, 2, none⟩ (.slice a4 pm c4) = w5 at n0 n1 n2 n3 n4 own5 hb5 ⊢
      clear m0 m1 m2 m3 m4 mf own4 hb4 hne4 hrow3
      obtain ⟨rk, oR, tR, pR⟩ := hR.out
      have hrl : rk.length = k := by rw [tR.1, List.length_take]; omega
      have oR5 := hide (oR.stays hb5.out)
      have tR5 := hide (tR.stays hb5.out)
      have hav := hide (fun j hj => (oR.block_lt j hj))
      replace pR := hide pR
      have hz5 : wr.heap.size < w5.heap.size := cell_lt n0
      clear hR oR tR
      go_wp2_with (at_builtin; (refine wpList_pushL (e := 53) (enc := encR) (xs := rk) (v := .slice av (k) cv) (base := w.heap.size) rfl (.tmp 21) (.tmp 23) 45 rfl _ 56 Try.underlying45 info_round rfl ?d16 lenR oneR (k) ?d26 ?d36 ?d46 ⟨w5.heap.size, 0, none⟩ 1 ⟨na, nb, a4, pm, c4, rcc, dn⟩ ?d56 ?d66 ?d76 ?d86 ?d96 ?_); (case d16 => omega); (case d26 => exact hrl); (case d36 => rfl); (case d46 => exact (oR5.out.alloc _)); (case d56 => rfl); (case d66 => exact newR _ _ _ _ rfl); (case d76 => omega); (case d86 => unfold maxLen; omega); (case d96 => first | omega | (simp; done) | (simp; omega)); intro g6 c6 w6 own6 hb6 hgr6 hat6 hgl6; have kp6 := Keep.grown (S := fun j => (Value.slice av k cv).ownBlock = some j) (Keep.refl _ _) hgr6 (fun j hj => .inl hj); have hfin := hide (show RoundsAt w.heap.size w6 (.slice (some ⟨g6, 0, none⟩) (k + 1) c6) (s.told.take (k + 1)) by (rw [hstep.out]; refine ⟨_, own6, ((tR5.out.stays ((Below.refl _ _).alloc (Nat.le_refl _) (.cells #[.int .i64 na, .int .i64 nb, .slice a4 pm c4, .int .i64 rcc, .int .i64 dn] 53))).push (r := ⟨na, nb, a4, pm, c4, rcc, dn⟩) (t := ⟨ta, tb, tp, tc, td⟩) ⟨g1.out, g2.out, g3.out, g4.out, hpm.out.symm, (own5.out.alloc _).base_le (by omega)⟩).keep kp6 (fun j hj hc => ?_), fun j hj hc => ?_⟩; (rcases pathb_app.1 hj with h1 | h1; (exact pR.out j h1 hc); (have h2 := (hav.out j hc).2; have h3 := (own5.out.block_lt j h1).1; omega)); (simp only [Value.ownBlock, Option.some.injEq] at hc; subst hc; rcases hat6 with h2 | h2; (rcases pathb_app.1 hj with h1 | h1; (exact pR.out _ h1 h2); (have h4 := (hav.out _ h2).2; have h3 := (own5.out.block_lt _ h1).1; omega)); (rcases pathb_app.1 hj with h1 | h1; (have h4 := (tR5.out.lt h1).2; simp at h2; omega); (have h3 := (own5.out.block_lt _ h1).2; simp at h2; omega))))); have hb6' := hide (hb.out.trans ((hb5.out.mono hb.out.size).trans ((up_alloc (Below.refl w.heap.size w5) (o := .cells #[.int .i64 na, .int .i64 nb, .slice a4 pm c4, .int .i64 rcc, .int .i64 dn] 53) (by omega)).trans hb6))); clear kp6 own6 hgr6 hat6 hb6)
      go_roundw
      case rel => exact ⟨k + 1, _, _, by omega, by go_num, rfl, hfin, hb6'⟩
      case measure => simp [intOf]; omega
    · obtain rfl : t = k := by omega
      have hfin := hide (show RoundsAt w.heap.size wr (.slice av t cv) s.told by have := hR.out; rwa [List.take_of_length_le (by rw [htl.out]; exact Nat.le_refl _)] at this)
      clear hR hX
      go_wp2
      go_ret
      exact ⟨av, cv, rfl, hfin.out, hb.out⟩
end
theorem afold_same {h : Nat → Int} {v : Nat} : ∀ (E : List NE) (s : AS), (E.foldl (aedge h v) s).told = s.told ∧ (E.foldl (aedge h v) s).done = s.done ∧ (E.foldl (aedge h v) s).lk = s.lk
  | [], s => ⟨rfl, rfl, rfl⟩
  | e :: r, s => by
    obtain ⟨g1, g2, g3⟩ := afold_same (h := h) (v := v) r (aedge h v s e)
    have he := aedge_same (h := h) (v := v) (s := s) (e := e)
    exact ⟨g1.trans he.1, g2.trans he.2.1, g3.trans he.2.2⟩
theorem settle_done {ws : List P2} {n tg : Nat} {es : List Ed} {h : Nat → Int} {s s' : AS} (hst : ASettle ws es h n tg s s') : s'.done = s.done := by
  induction hst with
  | over _ _ => rfl
  | left _ _ _ _ => rfl
  | tell s s' r p hr hl2 hp ht ih => exact ih
theorem astep_done {ws : List P2} {n tg : Nat} {es : List Ed} {h : Nat → Int} {s s' : AS} (hst : AStep ws es h n tg s s') : s'.done = s.done + 1 := by
  obtain ⟨r, v, _, _, h3⟩ := hst
  rw [settle_done h3]
  exact (afold_same (nes es) (alook s v)).2.1
theorem asteps_done {ws : List P2} {n tg N k : Nat} {es : List Ed} {h : Nat → Int} {s s' : AS} (hst : ASteps ws es h n tg N s k s') : s'.done = s.done + k := by
  induction hst with
  | zero _ => rfl
  | over _ _ _ => rfl
  | step k j s s1 s2 hl h1 h2 ih => rw [ih, astep_done h1]; omega
theorem asteps_exact {ws : List P2} {n tg N k : Nat} {es : List Ed} {h : Nat → Int} {s s' : AS} (hst : ASteps ws es h n tg N s k s') : ASteps ws es h n tg k s k s' := by
  induction hst with
  | zero s => exact .zero s
  | over _ s _ => exact .zero s
  | step k j s s1 s2 hl h1 h2 ih => exact .step j j s s1 s2 hl h1 ih
theorem asteps_first {ws : List P2} {n tg N k : Nat} {es : List Ed} {h : Nat → Int} {s s' : AS} (hst : ASteps ws es h n tg (N + 1) s k s') (hl : s.told.length < ws.length) : 1 ≤ k := by
  cases hst with
  | over _ _ ho => omega
  | step k j s s1 s2 hl h1 h2 => omega
theorem asteps_trans {ws : List P2} {n tg : Nat} {es : List Ed} {h : Nat → Int} : ∀ (K : Nat) (s a b : AS) (k : Nat), ASteps ws es h n tg K s K a → ASteps ws es h n tg k a k b → ASteps ws es h n tg (K + k) s (K + k) b
  | 0, s, a, b, k, h1, h2 => by
    cases h1 with
    | zero _ => simpa using h2
    | over _ _ _ => simpa using h2
  | K + 1, s, a, b, k, h1, h2 => by
    cases h1 with
    | step _ _ _ s1 _ hl g1 g2 =>
      have := asteps_trans K s1 a b k g2 h2
      rw [show K + 1 + k = K + k + 1 by omega]
      exact .step (K + k) (K + k) s s1 b hl g1 this
/-- where all steps lead, when it is over -/
theorem asteps_end {ws : List P2} {n tg K L : Nat} {es : List Ed} {h : Nat → Int} {s a b : AS} (h1 : ASteps ws es h n tg K s K a) (ha : ws.length ≤ a.told.length) (h2 : ASteps ws es h n tg L s L b) (hb : ws.length ≤ b.told.length) : K = L ∧ a = b :=
  asteps_one (asteps_over (N := K + L) h1 (by omega) ha) (asteps_over (N := K + L) h2 (by omega) hb)
theorem Told.base_le {w : World} {base base' : Nat} {ros : List RV} {told : List RD} (h : Told w base ros told) (hb : base' ≤ base) : Told w base' ros told := by
  refine ⟨h.1, fun i hi => ?_⟩
  obtain ⟨r, h1, h2, h3, h4, h5, h6, h7⟩ := h.2 i hi
  exact ⟨r, h1, h2, h3, h4, h5, h6, h7.base_le hb⟩
theorem AHeld.stays [AFr] {n sb gc gp gd gh : Nat} {ev ov hv wv : Value} {tg : Int} {es : List Ed} {h : Nat → Int} {ws : List P2} {s : AS} {wS wr w' : World} (hA : AHeld n sb gc gp gd gh ev ov hv wv tg es h ws s wS wr) (hb : Below wr.heap.size wr w') : AHeld n sb gc gp gd gh ev ov hv wv tg es h ws s wS w' := by
  obtain ⟨sx, h1, h2, h3, a1, q1, c1, f1, al, ll, lc, ls, ar, t, rc, ros, hX, hr⟩ := hA
  exact ⟨sx, h1, h2, h3, a1, q1, c1, f1, al, ll, lc, ls, ar, t, rc, ros, hX.stays hb, hr⟩
attribute [local instance] AFr.none
/-- what Run returns -/
def RunAns (n tg : Nat) (es : List Ed) (h : Nat → Int) (ws : List P2) (v : Nat) (w0 : World) (e : Ending) (w' : World) : Prop :=
  ∃ a c s0 s' K, e = .returned (.tuple #[.slice a ws.length c, .int .i64 0]) ∧ ASettle ws es h n tg (aStart h v) s0 ∧ ASteps ws es h n tg K s0 K s' ∧ s'.told.length = ws.length ∧ RoundsAt w0.heap.size w' (.slice a ws.length c) s'.told ∧ Below w0.heap.size w0 w' ∧ ∀ r ∈ s'.told, r.path.length ≤ 64
set_option maxRecDepth 100000 in
set_option maxHeartbeats 4000000 in
theorem arun_ok (n v t : Nat) (a : Option Addr) (cap : Nat) (es : List Ed) (ah : Option Addr) (ch : Nat) (hl : List Int) (aw : Option Addr) (m cw : Nat) (ws : List P2) (hm : ws.length = m) (w : World) (B : Nat) (hB : B ≤ w.heap.size) (hE : Row encE 3 w B a es) (hH : Row encI 1 w B ah hl) (hW : Row encP 2 w B aw ws) (hel : es.length ≤ 9223372036854775807) (hl2 : hl.length ≤ 9223372036854775807) (h0 : slookErr (n : Int) es (v : Int) (t : Int) hl = 0) (h1 : wsErr ws = 0) :
    Calls Try.prog 12 #[.agg #[.int .i64 (n : Int), .slice a es.length cap], .int .i64 (v : Int), .int .i64 (t : Int), .slice ah hl.length ch, .slice aw m cw] w (RunAns n t es (hAt hl) ws v w) := by
  have hC := hide (fun (w' : World) (hb : Below w.heap.size w w') => anew_ok n v t a cap es ah ch hl aw m cw ws hm w' B (Nat.le_trans hB hb.size) (hE.below hb hB) (hH.below hb hB) (hW.below hb hB) hel hl2 h0 h1)
  obtain ⟨n', v', t', e1, e2, e3, a1, a2, a3, a4, a5, a6, a7, a8, a9, a10, a11⟩ := slook_all h0
  obtain rfl : t = t' := by omega
  have htn : t < n := by omega
  have hws := (wsErr_ok h1).2.1
  have hn64 : n ≤ 64 := by omega
  generalize hAt hl = h at hC ⊢
  subst hm
  clear hE hH hW hel hl2 h0 h1 a1 a2 a3 a4 a5 a6 a7 a8 a9 a10 a11 e1 e2 e3
  go_enter Try.func12, Try.ntmps12
  go_wp2_with fail
  refine (hC.out _ (by exact bel)).mono ?_
  rintro e w1 ⟨sb, gc, gp, gd, gh, ec, hc, wcc, ae, ha, aw2, O, lo, hi, wS, s0, rfl, hAC, hOu, hdis, hst0, hA0, hin0, htl0, hBel, -⟩
  have hbx : Below w.heap.size w (w.alloc (.cells #[.int .i64 (n : Int), .slice a es.length cap] 41)) := bel
  replace hBel := hide (show ∀ wz, Keep (AXb sb gc gp gd gh) wS wz → Below w.heap.size w wz ∧ w.heap.size ≤ wS.heap.size from fun wz hk => ⟨hbx.trans ((hBel wz hk).mono (by simp)), Nat.le_trans (by simp) (hBel wS (Keep.refl _ _)).size⟩)
  replace hAC := hide hAC
  replace hOu := hide hOu
  replace hdis := hide hdis
  replace hst0 := hide hst0
  replace hA0 := hide hA0
  replace hin0 := hide hin0
  have hz0 := hide (ASteps.zero (ws := ws) (es := es) (h := h) (n := n) (tg := t) s0)
  clear hC hbx
  go_wp2
  go_loopg [] (64 * ws.length + 2) (fun gk wr => ∃ (K : Nat) (s1 : AS), Hid (AHeld n sb gc gp gd gh (.slice ae es.length ec) (.slice (some ⟨O, 0, none⟩) n n) (.slice ha n hc) (.slice aw2 ws.length wcc) (t : Int) es h ws s1 wS wr) ∧ Hid (AInv n h s1) ∧ s1.told.length ≤ ws.length ∧ Hid (ASteps ws es h n t K s0 K s1) ∧ 64 * ws.length + 2 ≤ gk + s1.done)
  case atStart => exact ⟨0, s0, hA0, hin0, htl0, hz0, by omega⟩
  case round =>
    clear hA0 hin0 htl0 hz0
    obtain ⟨K, s1, hA1, hin, htl, hsts, hgk⟩ := hrel
    obtain ⟨sx, hsx1, hsx2, hsx3, q1, m1, c1, f1, al, ll, lc, ls, ar, tt, rc, ros, hX, ht, hq1, hll, hlQ, hok, hhs, hla, hln, htop⟩ := hA1.out
    have c5 := hX.c5
    have c12 := hX.c12
    have hinx := hin.out.lp
    have ht1 : tt = s1.told.length := by rw [ht, hsx1]
    have ht0 := ht
    by_cases hov : tt = ws.length
    · have hov2 : ((tt : Int) == (ws.length : Int)) = true := by simp; omega
      have hX := hide hX
      clear hq1 hll hlQ hok hhs hla hln htop hA1 ht1 ht
      go_wp2_with fail
      refine (aover_any sb tt rc _ _ ar _ _ c12 c5).mono ?_
      rintro e w2 ⟨rfl, kk, rfl⟩
      rw [hov2]
      have hX2 := hide (hX.out.stays (up_drewN (n := kk) (Below.refl _ _)))
      clear c5 c12 hX
      generalize wr.drewN kk = w2 at hX2 ⊢
      have c12 := hX2.out.c12
      have hw0 := (hBel.out w2 hX2.out.keep)
      have hfin := hide (show RunAns n t es h ws v w (.returned (.tuple #[.slice ar ws.length rc, .int .i64 0])) w2 from ⟨ar, rc, s0, s1, K, rfl, hst0.out, hsts.out, (by rw [← hsx1]; omega), by
        rw [← hsx1, ← hov]
        exact ⟨ros, hX2.out.rnds.base_le hw0.2, hX2.out.told.base_le hw0.2, fun j hj => (hX2.out.apP j hj).2.2⟩, hw0.1, hinx⟩)
      clear hw0 hst0 hsts hAC hOu hdis hBel hsx1 hsx2 hsx3 hinx ht0
      subst hov
      go_wp2
      refine bodyPost_ret (v := .tuple #[.slice ar ws.length rc, .int .i64 0]) (by simp [results, Try.results12, go_sem]) rfl ?_
      exact hfin.out
    · have hov2 : ((tt : Int) == (ws.length : Int)) = false := by simp; omega
      have hlt : s1.told.length < ws.length := by omega
      have hSt := hide (fun k => astep_any (w := wr.drewN k) t O lo hi htn 64 (by omega) (hA1.out.stays (up_drewN (Below.refl _ _))) hAC.out hOu.out hdis.out hin.out htl)
      clear hX hq1 hll hlQ hok hhs hla hln htop hA1 ht1 ht hsx1 hsx2 hsx3 hinx
      go_wp2_with fail
      refine (aover_any sb tt rc _ _ ar _ _ c12 c5).mono ?_
      rintro e w2 ⟨rfl, kk, rfl⟩
      rw [hov2]
      have hSt2 := hide (hSt.out kk)
      clear c5 c12 hSt
      generalize wr.drewN kk = w2 at hSt2 ⊢
      go_wp2_with fail
      refine hSt2.out.mono ?_
      rintro e w3 ⟨k, s2, rfl, hst2, hA2, hin2, htl2⟩
      have hk1 : 1 ≤ k := asteps_first (N := 63) hst2 hlt
      have hd2 := asteps_done hst2
      have hsts2 := hide (asteps_trans K s0 s1 s2 k hsts.out (asteps_exact hst2))
      have hdn := hin2.dn
      have hnb := nb_le n s2.lk
      replace hA2 := hide hA2
      replace hin2 := hide hin2
      clear hst2 hsts
      go_wp2
      go_roundg (gk - 1)
      case measure =>
        have h1 := hin.out.dn
        have h2 := nb_le n s1.lk
        omega
      case rel => exact ⟨K + k, s2, hA2, hin2, htl2, hsts2, by omega⟩
end Go.Proofs.Ytccailcjclbhlaa
