/-
  Several texts in one:
  Edges in the order of their costs, joined one by one: the first that joins two places is the least cost that does. No program here.
  The step that span.Neck hands to the tree: are two places joined by now? Conditions: a right edge, places in bounds.
  What span's tree does with span.Neck's step: it finds the neck. Conditions: a right net, two places in bounds.
  What the reference's joined and Neck return. Conditions: a right net, places in bounds.
  What the reference's Neck returns. Conditions: a right net, places in bounds.
  What span.Neck returns. Conditions: that the slice reads.
  Necks and widths: with costs turned round and edges both ways the width is the neck turned over. No program here.
  The way back along least costs: the place before each place; costs that no edge undercuts. No program here.
  What dijk.Way returns. Conditions: that the slices read.
  What dijk.Way returns where there is a walk. Conditions: that the slices read.
  felltop.begun returns true. No conditions.
  What floyd.Wide and floyd.All return. Conditions: that the slice reads.
  The walk of felltop.TopNeck: it returns true. Conditions: the arguments read as data, at most 1048576 edges.
-/
import Derived.Test.YtgkiipmeigfjnaaSortP
import Derived.Test.YtgkiipmeigfjnaaDijkO
import Derived.Test.YtgkiipmeigfjnaaUOf
import Derived.Test.YtgkiipmeigfjnaaGroups
import Derived.Deep.RegionHeld3
import Derived.Test.YtgkiipmeigfjnaaHSort
import Derived.Deep.RegionLaw
import Derived.Test.YtgkiipmeigfjnaaHeldEnd
import Derived.Test.YtgkiipmeigfjnaaRGroups
import Derived.Test.YtgkiipmeigfjnaaTabs2
import Derived.Test.YtgkiipmeigfjnaaWideP
import Derived.Test.YtgkiipmeigfjnaaLI
import Derived.Test.YtgkiipmeigfjnaaDijkP
import Derived.Test.YtgkiipmeigfjnaaAllP
import Derived.Test.YtgkiipmeigfjnaaDDist
import Derived.Deep.LoopGhost
import Derived.Test.YtgkiipmeigfjnaaPushAll
import Derived.BigQuiet
import Derived.Deep.QuietTactic
import Derived.Test.YtgkiipmeigfjnaaClosedW
import Derived.Test.YtgkiipmeigfjnaaClosedA
import Derived.Test.YtgkiipmeigfjnaaNetChk
import Derived.Laws.EntriesVeiled
import Derived.Test.YtgkiipmeigfjnaaHeapN
import Derived.Test.YtgkiipmeigfjnaaOpen
/-! Edges in the order of their costs, joined one by one: the first that joins two places is the least cost that does. No program here. -/
namespace Go.Proofs.Ytgkiipmeigfjnaa
set_option linter.unusedVariables false

/-- one group -/
def Conn (d : List (Nat × Nat)) (a b : Nat) : Prop := ∀ g : Nat → Nat, Resp d g → g a = g b
theorem Conn.mono {d d' : List (Nat × Nat)} {a b : Nat} (hs : ∀ p ∈ d, p ∈ d') (h : Conn d a b) : Conn d' a b := fun g hg => h g (fun p hp => hg p (hs p hp))
theorem done_conn {d : List (Nat × Nat)} {f : Nat → Nat} (h : Done d d f) (a b : Nat) : root f a = root f b ↔ Conn d a b := by
  constructor
  · intro e g hg
    rw [← h.2.1.2 g hg a, ← h.2.1.2 g hg b, e]
  · intro hc
    exact hc _ h.2.2
theorem done_snoc {d : List (Nat × Nat)} {f : Nat → Nat} (h : Done d d f) (p : Nat × Nat) : Done (d ++ [p]) (d ++ [p]) (joined f p.1 p.2) :=
  done_join (l := d ++ [p]) ⟨h.1, ⟨h.2.1.1, fun g hg => h.2.1.2 g (fun q hq => hg q (List.mem_append_left _ hq))⟩, h.2.2⟩ (by simp)
theorem done_more : ∀ (r d : List (Nat × Nat)) (f : Nat → Nat), Done d d f → ∃ f', Done (d ++ r) (d ++ r) f'
  | [], d, f, h => ⟨f, by simpa using h⟩
  | p :: r, d, f, h => by
    have := done_more r (d ++ [p]) _ (done_snoc h p)
    simpa using this
theorem rounds_conn {n : Nat} {l : List (Nat × Nat)} (hl : ∀ p ∈ l, p.1 < n ∧ p.2 < n) {a b : Nat} (ha : a < n) (hb : b < n) : rounds l n a = rounds l n b ↔ Conn l a b := by
  obtain ⟨f, h⟩ := done_more l [] _ (done_start [])
  simp only [List.nil_append] at h
  rw [done_all h hl a ha, done_all h hl b hb]
  exact done_conn h a b
theorem conn_nil {a b : Nat} (h : a ≠ b) : ¬ Conn [] a b := fun hc => h (hc (fun x => x) (fun p hp => by cases hp))

/-- costs with numbers -/
def popsK (es : List Ed) (k : Nat) : List P2 := (List.range k).map fun (i : Nat) => ⟨(edAt es (i : Int)).c, (i : Int)⟩
theorem popsK_len (es : List Ed) (k : Nat) : (popsK es k).length = k := by simp [popsK]
theorem popsK_succ (es : List Ed) (k : Nat) : popsK es (k + 1) = popsK es k ++ [⟨(edAt es (k : Int)).c, (k : Int)⟩] := by simp [popsK, List.range_succ]
theorem edAt_c {es : List Ed} {i : Nat} (hi : i < es.length) : (edAt es (i : Int)).c = es[i].c := by
  unfold edAt nes
  simp [List.getD, List.getElem?_eq_getElem hi]
theorem edAt_uv {es : List Ed} {i : Nat} (hi : i < es.length) : ((edAt es (i : Int)).u, (edAt es (i : Int)).v) = (es[i].u.toNat, es[i].v.toNat) := by
  unfold edAt nes
  simp [List.getD, List.getElem?_eq_getElem hi]
def pairAt (es : List Ed) (x : P2) : Nat × Nat := ((edAt es x.b).u, (edAt es x.b).v)
def orderOf (es : List Ed) : List P2 := sortP (popsK es es.length)
theorem orderOf_len (es : List Ed) : (orderOf es).length = es.length := by
  unfold orderOf
  rw [(sortP_ok _).1.length_eq, popsK_len]
theorem orderOf_mem {es : List Ed} {x : P2} (h : x ∈ orderOf es) : ∃ i : Nat, ∃ hi : i < es.length, x = ⟨es[i].c, (i : Int)⟩ ∧ pairAt es x = (es[i].u.toNat, es[i].v.toNat) := by
  have := (sortP_ok _).1.mem_iff.1 h
  obtain ⟨i, hi, rfl⟩ := List.mem_map.1 this
  have hi' : i < es.length := List.mem_range.1 hi
  exact ⟨i, hi', by rw [edAt_c hi'], edAt_uv hi'⟩
theorem mem_orderOf {es : List Ed} {i : Nat} (hi : i < es.length) : (⟨es[i].c, (i : Int)⟩ : P2) ∈ orderOf es := by
  refine (sortP_ok _).1.mem_iff.2 (List.mem_map.2 ⟨i, List.mem_range.2 hi, ?_⟩)
  rw [edAt_c hi]
theorem orderOf_le {es : List Ed} {i j : Nat} (hij : i ≤ j) (hj : j < (orderOf es).length) : ((orderOf es)[i]'(by omega)).a ≤ (orderOf es)[j].a := by
  rcases Nat.lt_or_eq_of_le hij with h | h
  · have := List.pairwise_iff_getElem.1 (sortP_ok (popsK es es.length)).2 i j (by unfold orderOf at hj; omega) hj h
    simp only [popLt, Bool.or_eq_false_iff, decide_eq_false_iff_not] at this
    have h1 := this.1
    unfold orderOf
    omega
  · subst h; exact Int.le_refl _
/-- the pairs of the first k -/
def joinedK (es : List Ed) (k : Nat) : List (Nat × Nat) := ((orderOf es).take k).map (pairAt es)
theorem joinedK_succ (es : List Ed) (k : Nat) (h : k < (orderOf es).length) : joinedK es (k + 1) = joinedK es k ++ [pairAt es (orderOf es)[k]] := by
  unfold joinedK
  rw [List.take_succ_eq_append_getElem h, List.map_append]
  rfl
/-- the edges of so much at most -/
def thr (c : Int) (es : List Ed) : List Ed := es.filter fun e => decide (e.c ≤ c)
def thrP (c : Int) (es : List Ed) : List P2 := (thr c es).map fun e => ⟨e.u, e.v⟩
theorem thr_mem {c : Int} {es : List Ed} {p : Nat × Nat} : p ∈ natPairs (thrP c es) ↔ ∃ i, ∃ hi : i < es.length, es[i].c ≤ c ∧ p = (es[i].u.toNat, es[i].v.toNat) := by
  unfold natPairs thrP thr
  simp only [List.map_map, List.mem_map, List.mem_filter, decide_eq_true_eq, Function.comp]
  constructor
  · rintro ⟨e, ⟨he, hc⟩, rfl⟩
    obtain ⟨i, hi, rfl⟩ := List.getElem_of_mem he
    exact ⟨i, hi, hc, rfl⟩
  · rintro ⟨i, hi, hc, rfl⟩
    exact ⟨es[i], ⟨List.getElem_mem hi, hc⟩, rfl⟩
theorem joined_thr {es : List Ed} {k : Nat} (hk : k < (orderOf es).length) : ∀ p ∈ joinedK es (k + 1), p ∈ natPairs (thrP (orderOf es)[k].a es) := by
  intro p hp
  obtain ⟨x, hx, rfl⟩ := List.mem_map.1 hp
  obtain ⟨j, hj, hxj⟩ := List.getElem_of_mem hx
  rw [List.length_take] at hj
  rw [List.getElem_take] at hxj
  have hle := orderOf_le (es := es) (i := j) (j := k) (by omega) hk
  rw [hxj] at hle
  obtain ⟨i, hi, h1, h2⟩ := orderOf_mem (List.mem_of_mem_take hx)
  refine thr_mem.2 ⟨i, hi, ?_, h2⟩
  rw [h1] at hle
  exact hle
theorem thr_joined {es : List Ed} {k : Nat} {c : Int} (hc : ∀ j (h : j < (orderOf es).length), k ≤ j → c < (orderOf es)[j].a) : ∀ p ∈ natPairs (thrP c es), p ∈ joinedK es k := by
  intro p hp
  obtain ⟨i, hi, h1, rfl⟩ := thr_mem.1 hp
  obtain ⟨j, hj, hx⟩ := List.getElem_of_mem (mem_orderOf hi)
  have hjk : j < k := by
    rcases Nat.lt_or_ge j k with h | h
    · exact h
    · have := hc j hj h
      rw [hx] at this
      simp only at this
      omega
  refine List.mem_map.2 ⟨(orderOf es)[j], ?_, ?_⟩
  · exact List.mem_take_iff_getElem.2 ⟨j, by omega, rfl⟩
  · rw [hx]
    exact edAt_uv hi
/-- the answer: the least cost of an edge such that the edges of so much join the places -/
def NeckAns (J : Int → Prop) (es : List Ed) (best x : Int) : Prop := (x = 5 ∧ best = 0 ∧ ∀ w ∈ es, ¬ J w.c) ∨ (x = 0 ∧ (∃ w ∈ es, best = w.c ∧ J w.c) ∧ ∀ w ∈ es, J w.c → best ≤ w.c)
theorem neck_one {J : Int → Prop} {es : List Ed} {a x b y : Int} (h : NeckAns J es a x) (k : NeckAns J es b y) : a = b ∧ x = y := by
  rcases h with ⟨h1, h2, h3⟩ | ⟨h1, ⟨w, hw, h2, h3⟩, h4⟩ <;> rcases k with ⟨k1, k2, k3⟩ | ⟨k1, ⟨u, hu, k2, k3⟩, k4⟩
  · omega
  · exact absurd k3 (h3 u hu)
  · exact absurd h3 (k3 w hw)
  · have := h4 u hu k3
    have := k4 w hw h3
    omega
def JN (es : List Ed) (a b : Nat) (c : Int) : Prop := Conn (natPairs (thrP c es)) a b
theorem neck_found {es : List Ed} {a b k : Nat} (hk : k < (orderOf es).length) (h0 : ¬ Conn (joinedK es k) a b) (h1 : Conn (joinedK es (k + 1)) a b) : NeckAns (JN es a b) es (orderOf es)[k].a 0 := by
  obtain ⟨i, hi, e1, e2⟩ := orderOf_mem (List.getElem_mem hk)
  refine .inr ⟨rfl, ⟨es[i], List.getElem_mem hi, by rw [e1], ?_⟩, ?_⟩
  · have := h1.mono (joined_thr hk)
    rw [e1] at this
    exact this
  · intro w hw hj
    rcases Int.lt_or_le w.c (orderOf es)[k].a with hlt | hge
    · exact absurd (hj.mono (thr_joined fun j h hkj => Int.lt_of_lt_of_le hlt (orderOf_le hkj h))) h0
    · exact hge
theorem neck_none {es : List Ed} {a b : Nat} (h0 : ¬ Conn (joinedK es es.length) a b) : NeckAns (JN es a b) es 0 5 := by
  refine .inl ⟨rfl, rfl, fun w hw hj => h0 (hj.mono (thr_joined fun j h hkj => ?_))⟩
  rw [orderOf_len] at h
  omega
/-- the reference's step -/
theorem neck_start (J : Int → Prop) : NeckAns J [] 0 5 := .inl ⟨rfl, rfl, fun w hw => by cases hw⟩
theorem neck_take {J : Int → Prop} {es : List Ed} {k : Nat} (hk : k < es.length) {best x : Int} (h : NeckAns J (es.take k) best x) (hj : J es[k].c) (hq : x ≠ 0 ∨ es[k].c < best) : NeckAns J (es.take (k + 1)) es[k].c 0 := by
  rw [List.take_succ_eq_append_getElem hk]
  refine .inr ⟨rfl, ⟨es[k], List.mem_append_right _ (List.mem_singleton.2 rfl), rfl, hj⟩, fun w hw hw2 => ?_⟩
  rcases List.mem_append.1 hw with hw | hw
  · rcases h with ⟨h1, h2, h3⟩ | ⟨h1, h2, h3⟩
    · exact absurd hw2 (h3 w hw)
    · have := h3 w hw hw2
      omega
  · obtain rfl := List.mem_singleton.1 hw
    exact Int.le_refl _
theorem neck_keep {J : Int → Prop} {es : List Ed} {k : Nat} (hk : k < es.length) {best x : Int} (h : NeckAns J (es.take k) best x) (hq : ¬ J es[k].c ∨ (x = 0 ∧ best ≤ es[k].c)) : NeckAns J (es.take (k + 1)) best x := by
  rw [List.take_succ_eq_append_getElem hk]
  rcases h with ⟨h1, h2, h3⟩ | ⟨h1, ⟨u, hu, h2, h2'⟩, h3⟩
  · refine .inl ⟨h1, h2, fun w hw => ?_⟩
    rcases List.mem_append.1 hw with hw | hw
    · exact h3 w hw
    · obtain rfl := List.mem_singleton.1 hw
      rcases hq with hq | hq
      · exact hq
      · omega
  · refine .inr ⟨h1, ⟨u, List.mem_append_left _ hu, h2, h2'⟩, fun w hw hw2 => ?_⟩
    rcases List.mem_append.1 hw with hw | hw
    · exact h3 w hw hw2
    · obtain rfl := List.mem_singleton.1 hw
      rcases hq with hq | hq
      · exact absurd hw2 hq
      · exact hq.2
end Go.Proofs.Ytgkiipmeigfjnaa

/-! The step that span.Neck hands to the tree: are two places joined by now? Conditions: a right edge, places in bounds. -/
namespace Go.Proofs.Ytgkiipmeigfjnaa
open Go.RowKit
set_option linter.unusedSimpArgs false
set_option linter.unusedVariables false
/-- the groups as they were, but for shorter ways; the two places' cells -/
def FS (w : World) (ub n : Nat) (v : Value) (f : Nat → Nat) (ba bb : Nat) (a b : Nat) (w' : World) : Prop := ∃ f', Forest f' ∧ (∀ j, root f' j = root f j) ∧ Grp w' ub v n f' ∧ Keep (Blk v) w w' ∧ w'.cell? ⟨ba, 0, none⟩ = some (.int .i64 (a : Int)) ∧ w'.cell? ⟨bb, 0, none⟩ = some (.int .i64 (b : Int))
theorem FS.drew {w : World} {ub n : Nat} {v : Value} {f : Nat → Nat} {ba bb a b : Nat} {w' : World} (h : FS w ub n v f ba bb a b w') : FS w ub n v f ba bb a b w'.drew := by
  obtain ⟨f', h1, h2, h3, h4, h5, h6⟩ := h
  exact ⟨f', h1, h2, h3.drew, h4.drew, h5, h6⟩
/-- what the step leaves -/
def NStep (w : World) (ub n : Nat) (v : Value) (f : Nat → Nat) (bn be : Nat) (same : Bool) (c : Int) (w' : World) : Prop := ∃ f', Forest f' ∧ (∀ j, root f' j = root f j) ∧ Grp w' ub v n f' ∧
  (if same = true then Keep (fun k => Blk v k ∨ k = bn ∨ k = be) w w' ∧ w'.cell? ⟨bn, 0, none⟩ = some (.int .i64 c) ∧ w'.cell? ⟨be, 0, none⟩ = some (.int .i64 0) else Keep (Blk v) w w')
set_option maxHeartbeats 1000000 in
theorem neck1_any (i : Nat) (ub n : Nat) (v : Value) (f : Nat → Nat) (ba bb bg bn be : Nat) (a b : Nat) (an : Option Addr) (m cap : Nat) (c : Int) (w : World) (hf : Forest f) (hG : Grp w ub v n f) (ha : a < n) (hb : b < n) (hn : n ≤ 64)
    (ca : w.cell? ⟨ba, 0, none⟩ = some (.int .i64 (a : Int))) (cb : w.cell? ⟨bb, 0, none⟩ = some (.int .i64 (b : Int))) (cg : w.cell? ⟨bg, 1, none⟩ = some (.slice an m cap)) (cn : w.cell? ⟨bn, 0, none⟩ = some (.int .i64 0)) (ce : w.cell? ⟨be, 0, none⟩ = some (.int .i64 5)) (fn : w.frozen? ⟨bn, 0, none⟩ = false) (fe : w.frozen? ⟨be, 0, none⟩ = false)
    (hi : i < m) (eb eo : Nat) (han : an = some ⟨eb, eo, none⟩) (hc : w.cell? ⟨eb, eo + i * 3 + 2, none⟩ = some (.int .i64 c))
    (da : ¬ Blk v ba) (db : ¬ Blk v bb) (dg : ¬ Blk v bg) (dn : ¬ Blk v bn) (de : ¬ Blk v be) (dc : ¬ Blk v eb) (hne : bn ≠ be) (hun : ub ≠ bn) (hue : ub ≠ be) (same : Bool) (hs : same = decide (root f a = root f b)) :
    Calls Try.prog 63 #[.int .i64 (i : Int), .pointer (some ⟨ub, 0, none⟩), .pointer (some ⟨ba, 0, none⟩), .pointer (some ⟨bb, 0, none⟩), .pointer (some ⟨bg, 0, none⟩), .pointer (some ⟨bn, 0, none⟩), .pointer (some ⟨be, 0, none⟩)] w fun e w' => e = .returned (.bool (!same)) ∧ NStep w ub n v f bn be same c w' := by
  subst han
  have hS0 : FS w ub n v f ba bb a b w := ⟨f, hf, fun _ => rfl, hG, Keep.refl _ _, ca, cb⟩
  have hz : ∀ w', FS w ub n v f ba bb a b w' → ba < w'.heap.size ∧ bb < w'.heap.size := fun w' ⟨_, _, _, _, _, h5, h6⟩ => ⟨cell_lt h5, cell_lt h6⟩
  have hF := hide (fun w' (h : FS w ub n v f ba bb a b w') (x : Nat) (hx : x < n) => show Calls Try.prog 64 #[.pointer (some ⟨ub, 0, none⟩), .int .i64 (x : Int)] w' (fun e w2 => e = .returned (.int .i64 (root f x : Int)) ∧ FS w ub n v f ba bb a b w2) from by
    obtain ⟨f', h1, h2, h3, h4, h5, h6⟩ := h
    refine (find_any ub n v f' x w' h1 h3 hx hn).mono ?_
    rintro e w2 ⟨rfl, f2, g1, g2, g3, g4⟩
    exact ⟨by rw [h2], f2, g1, fun j => by rw [g2, h2], g3, h4.trans g4 , g4.cu h5 da, g4.cu h6 db⟩)
  have key := hide (show ∀ w', FS w ub n v f ba bb a b w' → (FS w ub n v f ba bb a b w' ∧ w'.cell? ⟨ba, 0, none⟩ = some (.int .i64 (a : Int)) ∧ w'.cell? ⟨bb, 0, none⟩ = some (.int .i64 (b : Int))) from fun w' h => ⟨h, by obtain ⟨_, _, _, _, _, h5, _⟩ := h; exact h5, by obtain ⟨_, _, _, _, _, _, h6⟩ := h; exact h6⟩)
  have hfin := hide (show ∀ w', FS w ub n v f ba bb a b w' → w'.cell? ⟨bg, 1, none⟩ = some (.slice (some ⟨eb, eo, none⟩) m cap) ∧ w'.cell? ⟨bn, 0, none⟩ = some (.int .i64 0) ∧ w'.cell? ⟨be, 0, none⟩ = some (.int .i64 5) ∧ w'.frozen? ⟨bn, 0, none⟩ = false ∧ w'.frozen? ⟨be, 0, none⟩ = false ∧ w'.cell? ⟨eb, eo + i * 3 + 2, none⟩ = some (.int .i64 c) from by
    rintro w' ⟨_, _, _, _, h4, _, _⟩
    exact ⟨h4.cu cg dg, h4.cu cn dn, h4.cu ce de, (h4.frozen (cell_lt cn) dn).trans fn, (h4.frozen (cell_lt ce) de).trans fe, h4.cu hc dc⟩)
  have hres : ((root f a : Int) == (root f b : Int)) = same := by rw [hs, Bool.eq_iff_iff]; simp only [beq_iff_eq, decide_eq_true_eq]; omega
  have ii : (0 : Int) ≤ (i : Int) ∧ (i : Int) < (m : Int) := by omega
  replace hs := hide hs
  replace hG := hide hG
  replace hf := hide hf
  replace hz := hide hz
  have dn2 := hide dn
  have de2 := hide de
  clear ca cb cg cn ce fn fe hc da db dg dn de dc hi
  cases same with
  | true =>
    go_enter Try.func63, Try.ntmps63
    go_wp2
    go_region_held3 (fun w' => FS w ub n v f ba bb a b w' ∧ w'.cell? ⟨ba, 0, none⟩ = some (.int .i64 (a : Int)) ∧ w'.cell? ⟨bb, 0, none⟩ = some (.int .i64 (b : Int)))
      (first | exact key.out _ (FS.drew (by assumption)) | exact key.out _ (by assumption))
      (first | (go_at_call 64; have hb4 := (‹FS _ _ _ _ _ _ _ _ _ _ ∧ _› : _ ∧ _).1; refine (hF.out _ hb4 _ (by assumption)).mono ?_; rintro e w4 ⟨rfl, hb5⟩))
    all_goals
      have hfs := hide (‹FS _ _ _ _ _ _ _ _ _ _ ∧ _› : _ ∧ _).1
      obtain ⟨d1, d2, d3, d4, d5, d6⟩ := hfin.out _ hfs.out
      have l1 := cell_lt d1
      have l2 := cell_lt d2
      have l3 := cell_lt d3
      have l6 := cell_lt d6
      go_wp2
      go_ret
      refine ⟨rfl, ?_⟩
      obtain ⟨f', h1, h2, h3, h4, _, _⟩ := hfs.out
      have hk1 := h4.mono (T := fun k => Blk v k ∨ k = bn ∨ k = be) (fun _ _ h => .inl h)
      refine ⟨f', h1, h2, ?_, ?_⟩
      · refine h3.keep (((Keep.refl (fun k => k = bn ∨ k = be) _).setCell (.inl (.inl rfl)) _).setCell (.inl (.inr rfl)) _) (fun h => ?_) (fun k hk h => ?_)
        · rcases h with h | h
          · exact hun h
          · exact hue h
        · rcases h with rfl | rfl
          · exact dn2.out hk
          · exact de2.out hk
      · rw [if_pos rfl]
        refine ⟨(hk1.setCell (.inl (.inr (.inl rfl))) _).setCell (.inl (.inr (.inr rfl))) _, ?_, ?_⟩
        · exact cu_set (World.cell?_setCell_same _ _ _ d2) (by simp; omega)
        · exact World.cell?_setCell_same _ _ _ (cu_set d3 (by simp; omega))
  | false =>
    go_enter Try.func63, Try.ntmps63
    go_wp2
    go_region_held3 (fun w' => FS w ub n v f ba bb a b w' ∧ w'.cell? ⟨ba, 0, none⟩ = some (.int .i64 (a : Int)) ∧ w'.cell? ⟨bb, 0, none⟩ = some (.int .i64 (b : Int)))
      (first | exact key.out _ (FS.drew (by assumption)) | exact key.out _ (by assumption))
      (first | (go_at_call 64; have hb4 := (‹FS _ _ _ _ _ _ _ _ _ _ ∧ _› : _ ∧ _).1; refine (hF.out _ hb4 _ (by assumption)).mono ?_; rintro e w4 ⟨rfl, hb5⟩))
    all_goals
      have hfs := hide (‹FS _ _ _ _ _ _ _ _ _ _ ∧ _› : _ ∧ _).1
      obtain ⟨d1, d2, d3, d4, d5, d6⟩ := hfin.out _ hfs.out
      have l3 := cell_lt d3
      go_wp2
      go_ret
      obtain ⟨f', h1, h2, h3, h4, _, _⟩ := hfs.out
      exact ⟨rfl, f', h1, h2, h3, by simpa using h4⟩
end Go.Proofs.Ytgkiipmeigfjnaa

/-! What span's tree does with span.Neck's step: it finds the neck. Conditions: a right net, two places in bounds. -/
namespace Go.Proofs.Ytgkiipmeigfjnaa
open Go.RowKit
set_option linter.unusedSimpArgs false
set_option linter.unusedVariables false
/-- what the tree leaves: the neck in its two cells -/
def TreeBack (es : List Ed) (a b bn be : Nat) (w : World) (e : Ending) (w' : World) : Prop := ∃ v best x, e = .returned v ∧ NeckAns (JN es a b) es best x ∧ w'.cell? ⟨bn, 0, none⟩ = some (.int .i64 best) ∧ w'.cell? ⟨be, 0, none⟩ = some (.int .i64 x) ∧ Keep (fun k => k = bn ∨ k = be) w w'
theorem joined_equal {f : Nat → Nat} (hf : Forest f) {x y : Nat} (h : root f x = root f y) (j : Nat) : root (joined f x y) j = root f j := by
  rw [joined_root hf, h]
  split <;> omega
theorem Grp.fresh {w w' : World} {b n : Nat} {v : Value} {f : Nat → Nat} (h : Grp w b v n f) (hb : Below w.heap.size w w') : Grp w' b v n f := h.keep (Keep.new hb : Keep (fun _ => False) w w') (fun x => x) (fun _ _ x => x)
set_option maxRecDepth 100000 in
set_option maxHeartbeats 4000000 in
theorem tree_neck (n a b : Nat) (an : Option Addr) (cap : Nat) (es : List Ed) (ba bb bg bn be : Nat) (w : World) (B : Nat) (hB : B ≤ w.heap.size) (hE : Row encE 3 w B an es) (hn1 : 1 ≤ n) (hn : n ≤ 64) (hl : es.length ≤ 600) (hes : Right n es) (ha : a < n) (hb : b < n) (hab : a ≠ b)
    (ca : w.cell? ⟨ba, 0, none⟩ = some (.int .i64 (a : Int))) (cb : w.cell? ⟨bb, 0, none⟩ = some (.int .i64 (b : Int))) (cg : w.cell? ⟨bg, 1, none⟩ = some (.slice an es.length cap)) (cn : w.cell? ⟨bn, 0, none⟩ = some (.int .i64 0)) (ce : w.cell? ⟨be, 0, none⟩ = some (.int .i64 5)) (fn : w.frozen? ⟨bn, 0, none⟩ = false) (fe : w.frozen? ⟨be, 0, none⟩ = false)
    (hne : bn ≠ be) :
    Calls Try.prog 62 #[.agg #[.int .i64 (n : Int), .slice an es.length cap], .func (.func 63) #[] #[.pointer (some ⟨ba, 0, none⟩), .pointer (some ⟨bb, 0, none⟩), .pointer (some ⟨bg, 0, none⟩), .pointer (some ⟨bn, 0, none⟩), .pointer (some ⟨be, 0, none⟩)]] w (TreeBack es a b bn be w) := by
  replace hE := hide hE
  replace hes := hide hes
  have zba := cell_lt ca
  have zbb := cell_lt cb
  have zbg := cell_lt cg
  have zbn := cell_lt cn
  have zbe := cell_lt ce
  simp only at zba zbb zbg zbn zbe
  go_enter Try.func62, Try.ntmps62
  go_wp2
  obtain ⟨w0, h0⟩ : ∃ w0, w0 = w.alloc (.cells #[.int .i64 (n : Int), .slice an es.length cap] 24) := ⟨_, rfl⟩
  have hB0 := hide (show Below w.heap.size w w0 by rw [h0]; exact (Below.refl _ _).alloc (Nat.le_refl _) _)
  have c0 : w0.cell? ⟨w.heap.size, 0, none⟩ = some (.int .i64 (n : Int)) := by rw [h0]; simp [go_sem]
  have c1 : w0.cell? ⟨w.heap.size, 1, none⟩ = some (.slice an es.length cap) := by rw [h0]; simp [go_sem]
  have hz0 : w.heap.size < w0.heap.size := cell_lt c0
  simp only [← h0]
  replace h0 := hide h0
  go_loopw [5, 6, 7, 15] (fun s5 _ _ i wr => ∃ (k : Nat) (av : Option Addr) (cv : Nat), k ≤ es.length ∧ i = .int .i64 k ∧ s5 = .slice av k cv ∧ Hid (Own encP 2 142 wr w0.heap.size (.slice av k cv) (popsK es k)) ∧ Hid (Below w0.heap.size w0 wr)) (fun _ _ _ i _ => es.length - (intOf i).toNat)
  case atStart => exact ⟨0, none, 0, Nat.zero_le _, rfl, rfl, hide (Own.nil _ _), hide (Below.refl _ _)⟩
  case round =>
    obtain ⟨k, av, cv, hk, rfl, rfl, own, hbr⟩ := hrel
    have hzr := hbr.out.size
    by_cases hlt : k < es.length
    · have hbw := hide (hB0.out.trans (hbr.out.mono (by omega)))
      obtain ⟨eb, eo, rfl, heb, e0, e1, e2⟩ := hE.out.ed k hlt
      have e0 := cu_below hbw.out e0 (by simp; omega)
      have e1 := cu_below hbw.out e1 (by simp; omega)
      have e2 := cu_below hbw.out e2 (by simp; omega)
      have hbl := cell_lt e0
      obtain ⟨ed, hed⟩ : ∃ ed, ed = es[k] := ⟨_, rfl⟩
      have hpk := hide (show popsK es (k + 1) = popsK es k ++ [⟨ed.c, (k : Int)⟩] by rw [popsK_succ, edAt_c hlt, hed])
      rw [← hed] at e0 e1 e2
      replace hed := hide hed
      have ik : (0 : Int) ≤ (k : Int) ∧ (k : Int) < (es.length : Int) := by omega
      go_wp2_with (at_builtin; (refine wpList_push (e := 142) (enc := encP) (xs := popsK es k) (v := .slice av (k) cv) (base := w0.heap.size) rfl (.tmp 20) (.tmp 25) 140 rfl _ 16 Try.underlying140 info_pop rfl ?d11 lenP oneP (k) ?d21 ?d31 ?d41 ⟨wr.heap.size + 1, 0, none⟩ 1 (⟨ed.c, (k : Int)⟩ : P2) ?d51 ?d61 ?d71 ?d81 ?d91 ?_); (case d11 => omega); (case d21 => exact popsK_len _ _); (case d31 => rfl); (case d41 => exact (own.out.alloc _).alloc _); (case d51 => rfl); (case d61 => exact newP _ _ _ _ (by simp)); (case d71 => omega); (case d81 => unfold maxLen; omega); (case d91 => first | omega | (simp; done) | (simp; omega)); intro g1 c1 w1 own1 hb1 hgr1 hg1 hgl1; have hB1 := hide (unalloc (unalloc hb1 (by simp; omega)) (by omega)); replace own1 := hide own1; replace hb1 := hide hb1; replace hgr1 := hide hgr1)
      go_roundw
      case rel => exact ⟨k + 1, _, _, by omega, by go_num, rfl, hide (by rw [hpk.out]; exact own1.out), hide (hbr.out.trans hB1.out)⟩
      case measure => simp [intOf]; omega
    · obtain rfl : k = es.length := by omega
      have k0 := cu_below hbr.out c0 (by simpa using hz0)
      have k1 := cu_below hbr.out c1 (by simpa using hz0)
      have hbw := hide (hB0.out.trans (hbr.out.mono (by omega)))
      have hzw : w.heap.size < wr.heap.size := by omega
      obtain ⟨a', c', hv', hrp, _⟩ := own.out.row lenP
      injection hv' with g1 g2 g3
      subst g1 g3
      clear g2
      replace hrp := hide hrp
      clear c0 c1
      go_wp2_with fail
      refine (unew_any n _ hn).mono ?_
      rintro e w2 ⟨vU, ub, rfl, hub, hG, hb2⟩
      have hz2 := hb2.size
      have k2 := cu_below hb2 k0 (by simp; omega)
      have k3 := cu_below hb2 k1 (by simp; omega)
      replace hG := hide hG
      have hbw2 := hide (hbw.out.trans (hb2.mono (by omega)))
      have hrp2 := hide (hrp.out.below hb2 (Nat.le_refl _))
      clear hb2 k0 k1
      go_wp2_with fail
      refine (sort_any av cv es.length (popsK es es.length) (popsK_len _ _) w2 wr.heap.size hz2 hrp2.out (by omega)).mono ?_
      rintro e w3 ⟨vs, rfl, ownS, hb3⟩
      change Own encP 2 142 w3 w2.heap.size vs (orderOf es) at ownS
      obtain ⟨sa, cs, rfl⟩ := ownS.shape (n := es.length) (orderOf_len es)
      obtain ⟨gU, cU, rfl, hgU⟩ := hG.out.slice (by omega)
      have hgU2 := (hG.out.2.2.block_lt gU rfl).2
      have hz3 := hb3.size
      have k4 := cu_below hb3 k2 (by simp; omega)
      have k5 := cu_below hb3 k3 (by simp; omega)
      have hG3 := hide (hG.out.fresh hb3)
      have hbw3 := hide (hbw2.out.trans (hb3.mono (by omega)))
      have hblkS := hide ownS.block_lt
      have hrS : Row encP 2 w3 w3.heap.size sa (orderOf es) := by
        obtain ⟨a', c', hv', hr', _⟩ := ownS.row lenP
        injection hv' with g1 g2 g3
        subst g1
        exact hr'
      replace hrS := hide hrS
      have hE3 := hide (hE.out.below hbw3.out hB)
      have ca := cu_below hbw3.out ca (by simpa using zba)
      have cb := cu_below hbw3.out cb (by simpa using zbb)
      have cg := cu_below hbw3.out cg (by simpa using zbg)
      have cn := cu_below hbw3.out cn (by simpa using zbn)
      have ce := cu_below hbw3.out ce (by simpa using zbe)
      have fn := fu_below hbw3.out fn (by simpa using zbn)
      have fe := fu_below hbw3.out fe (by simpa using zbe)
      have hcl := hide (⟨ca, cb, cg, cn, ce, fn, fe⟩ : _ ∧ _ ∧ _ ∧ _ ∧ _ ∧ _ ∧ _)
      have hC0 := hide (show ¬ Conn (joinedK es 0) a b from by simpa [joinedK] using conn_nil hab)
      have hD0 := hide (show Done (joinedK es 0) (joinedK es 0) (fun i => i) from by simpa [joinedK] using done_start [])
      clear hb3 k2 k3 ownS ca cb cg cn ce fn fe hG hrp hrp2 hbr own
      obtain ⟨wo, rfl⟩ : ∃ wo : World, wo = wr := ⟨_, rfl⟩
      go_wp2
      go_loopw [9, 11, 34] (fun s9 _ i wr => ∃ (k p : Nat) (av : Option Addr) (cv : Nat) (xs : List Int) (f : Nat → Nat), k ≤ es.length ∧ p ≤ k ∧ i = .int .i64 k ∧ s9 = .slice av p cv ∧ Hid (xs.length = p) ∧ Hid (Own encI 1 3 wr w3.heap.size (.slice av p cv) xs) ∧ Hid (Grp wr ub (.slice (some ⟨gU, 0, none⟩) n cU) n f) ∧ Hid (Done (joinedK es k) (joinedK es k) f) ∧ Hid (¬ Conn (joinedK es k) a b) ∧ Hid (Keep (fun j => j = gU) w3 wr)) (fun _ _ i _ => es.length - (intOf i).toNat)
      case atStart => exact ⟨0, 0, none, 0, [], fun i => i, Nat.zero_le _, Nat.le_refl _, rfl, rfl, hide rfl, hide (Own.nil _ _), hG3, hD0, hC0, hide (Keep.refl _ _)⟩
      case round =>
        clear hG3 hC0 hD0
        obtain ⟨k, p, ao, co, xs, f, hk, hp, rfl, rfl, hxl, hown, hG, hD, hC, hK⟩ := hrel
        have hzr := hK.out.size
        have x0 := hK.out.cu k4 (by simp; omega)
        have x1 := hK.out.cu k5 (by simp; omega)
        by_cases hlt : k < es.length
        · have hko : k < (orderOf es).length := by rw [orderOf_len]; exact hlt
          obtain ⟨i, hi, hxe, hpa⟩ := orderOf_mem (List.getElem_mem hko)
          obtain ⟨b1, o1, rfl, hb1, s0, s1⟩ := hrS.out.p2 k hko
          have hb1U : b1 ≠ gU := by have := (hblkS.out b1 rfl).1; omega
          rw [hxe] at s0 s1
          have s0 := hK.out.cu s0 (by simpa using hb1U)
          have s1 := hK.out.cu s1 (by simpa using hb1U)
          simp only at s0 s1
          have hb1r := cell_lt s0
          obtain ⟨u, v, e1, e2, e3, e4, e5, e6, -⟩ := right_edge hes.out i hi
          have hp2 : pairAt es (orderOf es)[k] = (u, v) := by rw [hpa, e1, e2]; simp
          have hjk := joinedK_succ es k hko
          rw [hp2] at hjk
          obtain ⟨eb, eo, rfl, heb, q0, q1, q2⟩ := hE3.out.ed i hi
          have hebU : eb ≠ gU := by omega
          rw [e1] at q0
          rw [e2] at q1
          obtain ⟨ec, hec⟩ : ∃ ec, ec = es[i].c := ⟨_, rfl⟩
          rw [← hec] at q2 s0
          have hka : (orderOf es)[k].a = ec := by rw [hxe, hec]
          have r0 := hK.out.cu q0 (by simpa using hebU)
          have r1 := hK.out.cu q1 (by simpa using hebU)
          have hebr := cell_lt r0
          have hDn := hide (done_snoc hD.out (u, v))
          rw [← hjk] at hDn
          have hJ := hide (fun w' (hb : Below wr.heap.size wr w') => join_any ub n (.slice (some ⟨gU, 0, none⟩) n cU) f u v w' hD.out.1 (hG.out.fresh hb) e3 e4 hn)
          obtain ⟨jb, hjb⟩ : ∃ jb, jb = decide (root f u ≠ root f v) := ⟨_, rfl⟩
          rw [← hjb] at hJ
          have hjf := hide (show jb = false → ∀ j, root (joined f u v) j = root f j from fun h j => joined_equal hD.out.1 (by rw [hjb] at h; simpa using h) j)
          have ik : (0 : Int) ≤ (k : Int) ∧ (k : Int) < (es.length : Int) := by omega
          have ii : (0 : Int) ≤ (i : Int) ∧ (i : Int) < (es.length : Int) := by omega
          replace hjb := hide hjb
          replace hec := hide hec
          replace hka := hide hka
          replace hxe := hide hxe
          replace hpa := hide hpa
          replace hp2 := hide hp2
          replace e1 := hide e1
          replace e2 := hide e2
          replace hjk := hide hjk
          clear e5 e6
          have hwB : ∀ w', Below wr.heap.size (wr.alloc (.cells #[.int .i64 ec, .int .i64 (i : Int)] 142)) w' → Below wr.heap.size wr w' := fun w' h => unalloc h (Nat.le_refl _)
          replace hwB := hide hwB
          have hzx : w.heap.size < wr.heap.size := by omega
          have key := hide (show ∀ w', Below (wr.heap.size + 1) (wr.alloc (.cells #[.int .i64 ec, .int .i64 (i : Int)] 142)) w' → (Below wr.heap.size wr w' ∧ w'.cell? ⟨wr.heap.size, 1, none⟩ = some (.int .i64 (i : Int)) ∧ w'.cell? ⟨w.heap.size, 1, none⟩ = some (.slice (some ⟨eb, eo, none⟩) es.length cap) ∧ w'.cell? ⟨eb, eo + i * 3, none⟩ = some (.int .i64 (u : Int)) ∧ w'.cell? ⟨eb, eo + i * 3 + 1, none⟩ = some (.int .i64 (v : Int))) from fun w' h =>
            ⟨unalloc (h.mono (by omega)) (Nat.le_refl _), cu_below h (by simp [go_sem]) (by simp), cu_below h (cu_alloc x1) (by simp; omega), cu_below h (cu_alloc r0) (by simp; omega), cu_below h (cu_alloc r1) (by simp; omega)⟩)
          have hb1x : b1 < wr.heap.size := hb1r
          have hebx : eb < wr.heap.size := hebr
          go_wp2
          refine wp_region_end (S := (fun w' => Below wr.heap.size wr w' ∧ w'.cell? ⟨wr.heap.size, 1, none⟩ = some (.int .i64 (i : Int)) ∧ w'.cell? ⟨w.heap.size, 1, none⟩ = some (.slice (some ⟨eb, eo, none⟩) es.length cap) ∧ w'.cell? ⟨eb, eo + i * 3, none⟩ = some (.int .i64 (u : Int)) ∧ w'.cell? ⟨eb, eo + i * 3 + 1, none⟩ = some (.int .i64 (v : Int)))) (t := 15) (by kernel_rfl) ?_ (fun hHeld hInv => ?_)
          · exact key.out _ (up_drew (Below.refl _ _))
          replace hInv := hide hInv
          refine wpAnyE_take (i := 0) (v := ?_) (List.getElem?_toArray.trans rfl) (by kernel_rfl) (by kernel_rfl) (by kernel_rfl) (by kernel_rfl) (fun _ _ _ h => h) (Or.inl ⟨by rfl, ?_⟩) hInv.out (by assumption) (fun hInv' => ?_)
          rotate_left
          · intro w hSw; (try dsimp only at hSw); go_simp; (try with_reducible rfl)
          replace hInv := hide hInv'; clear hInv'; try simp only [Act.put, List.setIfInBounds_toArray, List.set_cons_zero, List.set_cons_succ]
          refine wpAnyE_take (i := 1) (v := ?_) (List.getElem?_toArray.trans rfl) (by kernel_rfl) (by kernel_rfl) (by kernel_rfl) (by kernel_rfl) (fun _ _ _ h => h) (Or.inl ⟨by rfl, ?_⟩) hInv.out (by assumption) (fun hInv' => ?_)
          rotate_left
          · intro w hSw; (try dsimp only at hSw); go_simp; (try with_reducible rfl)
          replace hInv := hide hInv'; clear hInv'; try simp only [Act.put, List.setIfInBounds_toArray, List.set_cons_zero, List.set_cons_succ]
          refine wpAnyE_take (i := 2) (v := ?_) (List.getElem?_toArray.trans rfl) (by kernel_rfl) (by kernel_rfl) (by kernel_rfl) (by kernel_rfl) (fun _ _ _ h => h) (Or.inl ⟨by rfl, ?_⟩) hInv.out (by assumption) (fun hInv' => ?_)
          rotate_left
          · intro w hSw; (try dsimp only at hSw); go_simp; (try with_reducible rfl)
          replace hInv := hide hInv'; clear hInv'; try simp only [Act.put, List.setIfInBounds_toArray, List.set_cons_zero, List.set_cons_succ]
          refine wpAnyE_take (i := 3) (v := ?_) (List.getElem?_toArray.trans rfl) (by kernel_rfl) (by kernel_rfl) (by kernel_rfl) (by kernel_rfl) (fun _ _ _ h => h) (Or.inl ⟨by rfl, ?_⟩) hInv.out (by assumption) (fun hInv' => ?_)
          rotate_left
          · intro w hSw; (try dsimp only at hSw); go_simp; (try with_reducible rfl)
          replace hInv := hide hInv'; clear hInv'; try simp only [Act.put, List.setIfInBounds_toArray, List.set_cons_zero, List.set_cons_succ]
          refine wpAnyE_take (i := 4) (v := ?_) (List.getElem?_toArray.trans rfl) (by kernel_rfl) (by kernel_rfl) (by kernel_rfl) (by kernel_rfl) (fun _ _ _ h => h) (Or.inl ⟨by rfl, ?_⟩) hInv.out (by assumption) (fun hInv' => ?_)
          rotate_left
          · intro w hSw; (try dsimp only at hSw); go_simp; (try with_reducible rfl)
          replace hInv := hide hInv'; clear hInv'; try simp only [Act.put, List.setIfInBounds_toArray, List.set_cons_zero, List.set_cons_succ]
          refine wpAnyE_take (i := 5) (v := ?_) (List.getElem?_toArray.trans rfl) (by kernel_rfl) (by kernel_rfl) (by kernel_rfl) (by kernel_rfl) (fun _ _ _ h => h) (Or.inl ⟨by rfl, ?_⟩) hInv.out (by assumption) (fun hInv' => ?_)
          rotate_left
          · intro w hSw; (try dsimp only at hSw); go_simp; (try with_reducible rfl)
          replace hInv := hide hInv'; clear hInv'; try simp only [Act.put, List.setIfInBounds_toArray, List.set_cons_zero, List.set_cons_succ]
          refine wpAnyE_take (i := 6) (v := ?_) (List.getElem?_toArray.trans rfl) (by kernel_rfl) (by kernel_rfl) (by kernel_rfl) (by kernel_rfl) (fun _ _ _ h => h) (Or.inl ⟨by rfl, ?_⟩) hInv.out (by assumption) (fun hInv' => ?_)
          rotate_left
          · intro w hSw; (try dsimp only at hSw); go_simp; (try with_reducible rfl)
          replace hInv := hide hInv'; clear hInv'; try simp only [Act.put, List.setIfInBounds_toArray, List.set_cons_zero, List.set_cons_succ]
          refine wpAnyE_take (i := 7) (v := ?_) (List.getElem?_toArray.trans rfl) (by kernel_rfl) (by kernel_rfl) (by kernel_rfl) (by kernel_rfl) (fun _ _ _ h => h) (Or.inl ⟨by rfl, ?_⟩) hInv.out (by assumption) (fun hInv' => ?_)
          rotate_left
          · intro w hSw; (try dsimp only at hSw); go_simp; (try with_reducible rfl)
          replace hInv := hide hInv'; clear hInv'; try simp only [Act.put, List.setIfInBounds_toArray, List.set_cons_zero, List.set_cons_succ]
          refine wpAnyE_take (i := 8) (v := ?_) (List.getElem?_toArray.trans rfl) (by kernel_rfl) (by kernel_rfl) (by kernel_rfl) (by kernel_rfl) (fun _ _ _ h => h) (Or.inl ⟨by rfl, ?_⟩) hInv.out (by assumption) (fun hInv' => ?_)
          rotate_left
          · intro w hSw; (try dsimp only at hSw); go_simp; (try with_reducible rfl)
          replace hInv := hide hInv'; clear hInv'; try simp only [Act.put, List.setIfInBounds_toArray, List.set_cons_zero, List.set_cons_succ]
          refine wpAnyE_take (i := 9) (v := ?_) (List.getElem?_toArray.trans rfl) (by kernel_rfl) (by kernel_rfl) (by kernel_rfl) (by kernel_rfl) (fun _ _ _ h => h) (Or.inl ⟨by rfl, ?_⟩) hInv.out (by assumption) (fun hInv' => ?_)
          rotate_left
          · intro w hSw; (try dsimp only at hSw); go_simp; (try with_reducible rfl)
          replace hInv := hide hInv'; clear hInv'; try simp only [Act.put, List.setIfInBounds_toArray, List.set_cons_zero, List.set_cons_succ]
          refine wpAnyE_take (i := 10) (v := ?_) (List.getElem?_toArray.trans rfl) (by kernel_rfl) (by kernel_rfl) (by kernel_rfl) (by kernel_rfl) (fun _ _ _ h => h) (Or.inl ⟨by rfl, ?_⟩) hInv.out (by assumption) (fun hInv' => ?_)
          rotate_left
          · intro w hSw; (try dsimp only at hSw); go_simp; (try with_reducible rfl)
          replace hInv := hide hInv'; clear hInv'; try simp only [Act.put, List.setIfInBounds_toArray, List.set_cons_zero, List.set_cons_succ]
          refine wpAnyE_take (i := 11) (v := ?_) (List.getElem?_toArray.trans rfl) (by kernel_rfl) (by kernel_rfl) (by kernel_rfl) (by kernel_rfl) (fun _ _ _ h => h) (Or.inl ⟨by rfl, ?_⟩) hInv.out (by assumption) (fun hInv' => ?_)
          rotate_left
          · intro w hSw; (try dsimp only at hSw); go_simp; (try with_reducible rfl)
          replace hInv := hide hInv'; clear hInv'; try simp only [Act.put, List.setIfInBounds_toArray, List.set_cons_zero, List.set_cons_succ]
          refine wpAnyE_take (i := 12) (v := ?_) (List.getElem?_toArray.trans rfl) (by kernel_rfl) (by kernel_rfl) (by kernel_rfl) (by kernel_rfl) (fun _ _ _ h => h) (Or.inl ⟨by rfl, ?_⟩) hInv.out (by assumption) (fun hInv' => ?_)
          rotate_left
          · intro w hSw; (try dsimp only at hSw); go_simp; (try with_reducible rfl)
          replace hInv := hide hInv'; clear hInv'; try simp only [Act.put, List.setIfInBounds_toArray, List.set_cons_zero, List.set_cons_succ]
          refine wpAnyE_take (i := 13) (v := ?_) (List.getElem?_toArray.trans rfl) (by kernel_rfl) (by kernel_rfl) (by kernel_rfl) (by kernel_rfl) (fun _ _ _ h => h) (Or.inl ⟨by rfl, ?_⟩) hInv.out (by assumption) (fun hInv' => ?_)
          rotate_left
          · intro w hSw; (try dsimp only at hSw); go_simp; (try with_reducible rfl)
          replace hInv := hide hInv'; clear hInv'; try simp only [Act.put, List.setIfInBounds_toArray, List.set_cons_zero, List.set_cons_succ]
          refine wpAnyE_take (i := 14) (v := ?_) (List.getElem?_toArray.trans rfl) (by kernel_rfl) (by kernel_rfl) (by kernel_rfl) (by kernel_rfl) (fun _ _ _ h => h) (Or.inl ⟨by rfl, ?_⟩) hInv.out (by assumption) (fun hInv' => ?_)
          rotate_left
          · intro w hSw; (try dsimp only at hSw); go_simp; (try with_reducible rfl)
          replace hInv := hide hInv'; clear hInv'; try simp only [Act.put, List.setIfInBounds_toArray, List.set_cons_zero, List.set_cons_succ]
          refine wpAnyE_one (i := 15) (List.getElem?_toArray.trans rfl) (by kernel_rfl) (fun K hK => ?_) hInv.out
          (go_simp; go_at_call 130; refine (hJ.out _ (hwB.out _ (up_drew (Below.refl _ _)))).mono ?_; rintro e w5 ⟨rfl, f5, hf5, hr5, hG5, hK5⟩)
          refine hK.out _ _ (fun h => absurd rfl h) (fun _ => ?_)
          clear hK K hInv; try simp only [Act.put, List.setIfInBounds_toArray, List.set_cons_zero, List.set_cons_succ]
          refine wpAnyE_done (by kernel_rfl) ?_ _
          next =>
            have hKr := hide (show Keep (fun j => j = gU) wr w5 from by first | exact ((Keep.refl _ wr).alloc _).trans (hK5.mono (fun j _ h => (blk_slice.1 h).symm)) | exact ((Keep.refl _ wr).alloc _).drew.trans (hK5.mono (fun j _ h => (blk_slice.1 h).symm)))
            have hK6 := hide (hK.out.trans hKr.out)
            have hz5 : wr.heap.size + 1 ≤ w5.heap.size := by have := hK5.size; simpa using this
            have y1 : w5.cell? ⟨wr.heap.size, 1, none⟩ = some (.int .i64 (i : Int)) := hK5.cu (by simp [go_sem]) (by rw [blk_slice]; simp; omega)
            have hown5 := hide (hKr.out.own hown.out (fun j hj e => by have := (hown.out.block_lt j hj).1; omega))
            have hbl5 := hide hown.out.block_lt
            have hD5 := hide (done_same hDn.out hf5 hr5)
            replace hf5 := hide hf5
            replace hr5 := hide hr5
            replace hG5 := hide hG5
            clear hK5 hJ x0 x1 s0 s1 r0 r1 q0 q1
            cases jb with
            | false =>
              have hC5 := hide (show ¬ Conn (joinedK es (k + 1)) a b from by
                rw [← done_conn hD5.out, hr5.out, hr5.out, hjf.out rfl, hjf.out rfl, done_conn hD.out]
                exact hC.out)
              go_wp2
              go_roundw
              case rel => exact ⟨k + 1, p, ao, co, xs, f5, by omega, by omega, by go_num, rfl, hxl, hown5, hG5, hD5, hC5, hK6⟩
              case measure => simp [intOf]; omega
            | true =>
              obtain ⟨same, hsame⟩ : ∃ same, same = decide (root f5 a = root f5 b) := ⟨_, rfl⟩
              have hcon := hide (show same = true ↔ Conn (joinedK es (k + 1)) a b from by rw [hsame, decide_eq_true_eq, done_conn hD5.out])
              replace hsame := hide hsame
              go_wp2_with (at_builtin; (refine wpList_push (e := 3) (enc := encI) (xs := xs) (v := .slice ao (p) co) (base := w3.heap.size) rfl (.tmp 54) (.tmp 57) 34 rfl _ 8 Try.underlying34 info_int rfl ?d11 lenI oneI (p) ?d21 ?d31 ?d41 ⟨w5.heap.size, 0, none⟩ 1 (i : Int) ?d51 ?d61 ?d71 ?d81 ?d91 ?_); (case d11 => omega); (case d21 => exact hxl.out); (case d31 => rfl); (case d41 => exact (hown5.out.alloc _)); (case d51 => rfl); (case d61 => exact newI _ _ _ _ rfl); (case d71 => omega); (case d81 => unfold maxLen; omega); (case d91 => first | omega | (simp; done) | (simp; omega)); intro g1 c1 w1 own1 hb1 hgr1 hg1 hgl1; have hKp := ((Keep.refl (fun j => (Value.slice ao p co).ownBlock = some j) w5).alloc (.cells #[.int .i64 (i : Int)] 3)).grown hgr1 (fun j hj => .inl hj); have hG6 := hide (hG5.out.keep hKp (fun e => by have := (hbl5.out _ e).1; omega) (fun j hj e => by have := (hbl5.out _ e).1; simp [Value.ownBlock] at hj; omega)); have hK7 := hide (hK6.out.trans2 hKp (fun j hj => .inr (hbl5.out j hj).1)); have y2 := hKp.cu y1 (fun e => by have := (hbl5.out _ e).2; simp at this); replace own1 := hide own1; replace hb1 := hide hb1; replace hgr1 := hide hgr1; replace hKp := hide hKp)
              obtain ⟨ca, cb, cg, cn, ce, fn, fe⟩ := hcl.out
              refine (neck1_any i ub n (.slice (some ⟨gU, 0, none⟩) n cU) f5 ba bb bg bn be a b _ es.length cap ec _ hf5.out hG6.out ha hb hn (hK7.out.cu ca (by simp; omega)) (hK7.out.cu cb (by simp; omega)) (hK7.out.cu cg (by simp; omega)) (hK7.out.cu cn (by simp; omega)) (hK7.out.cu ce (by simp; omega)) ((hK7.out.frozen (cell_lt cn) (by simp; omega)).trans fn) ((hK7.out.frozen (cell_lt ce) (by simp; omega)).trans fe) hi eb eo rfl (hK7.out.cu q2 (by simpa using hebU)) (by rw [blk_slice]; omega) (by rw [blk_slice]; omega) (by rw [blk_slice]; omega) (by rw [blk_slice]; omega) (by rw [blk_slice]; omega) (by rw [blk_slice]; omega) hne (by omega) (by omega) same hsame.out).mono ?_
              rintro e w7 ⟨rfl, f7, hf7, hr7, hG7, hif⟩
              clear ca cb cg cn ce fn fe y2 y1
              cases same with
              | true =>
                rw [if_pos rfl] at hif
                obtain ⟨hK8, d1, d2⟩ := hif
                have hN := hide (neck_found hko hC.out (hcon.out.1 rfl))
                have hfin := hide (((Keep.new hbw3.out : Keep (fun j => j = bn ∨ j = be) w w3).trans2 hK7.out (fun j hj => .inr (by omega))).trans2 hK8 (fun j hj => by
                  rcases hj with hj | hj | hj
                  · right; rw [blk_slice] at hj; omega
                  · exact .inl (.inl hj)
                  · exact .inl (.inr hj)))
                replace hK8 := hide hK8
                go_wp2
                go_ret
                exact ⟨_, ec, 0, rfl, by rw [← hka.out]; exact hN.out, d1, d2, hfin.out⟩
              | false =>
                rw [if_neg (by simp)] at hif
                have hC5 := hide (show ¬ Conn (joinedK es (k + 1)) a b from fun h => by have := hcon.out.2 h; cases this)
                have own7 := hide (hif.own own1.out (fun j hj e => by rw [blk_slice] at e; have := (own1.out.block_lt j hj).1; omega))
                have hK9 := hide (hK7.out.trans (hif.mono (fun j _ h => (blk_slice.1 h).symm)))
                have hD7 := hide (done_same hD5.out hf7 hr7)
                replace hif := hide hif
                replace hG7 := hide hG7
                replace hf7 := hide hf7
                replace hr7 := hide hr7
                go_wp2
                go_roundw
                case rel => exact ⟨k + 1, p + 1, _, _, xs ++ [(i : Int)], f7, by omega, by omega, by go_num, rfl, hide (by simp [hxl.out]), own7, hG7, hD7, hC5, hK9⟩
                case measure => simp [intOf]; omega
        · obtain rfl : k = es.length := by omega
          obtain ⟨ca, cb, cg, cn, ce, fn, fe⟩ := hcl.out
          have d1 := hK.out.cu cn (by simp; omega)
          have d2 := hK.out.cu ce (by simp; omega)
          have hN := hide (neck_none hC.out)
          have hfin := hide ((Keep.new hbw3.out : Keep (fun j => j = bn ∨ j = be) w w3).trans2 hK.out (fun j hj => .inr (by omega)))
          go_wp2
          go_ret
          exact ⟨_, 0, 5, rfl, hN.out, d1, d2, hfin.out⟩
end Go.Proofs.Ytgkiipmeigfjnaa

/-! What the reference's joined and Neck return. Conditions: a right net, places in bounds. -/
namespace Go.Proofs.Ytgkiipmeigfjnaa
open Go.RowKit
set_option linter.unusedSimpArgs false
set_option linter.unusedVariables false
/-- the numbers of the edges of so much at most, and the pairs that they are -/
def idxT (c : Int) (es : List Ed) (k : Nat) : List Int := ((List.range k).filter fun (i : Nat) => decide ((edAt es (i : Int)).c ≤ c)).map fun (i : Nat) => (i : Int)
def pairI (es : List Ed) (x : Int) : P2 := ⟨((edAt es x).u : Int), ((edAt es x).v : Int)⟩
theorem idxT_succ (c : Int) (es : List Ed) (k : Nat) : idxT c es (k + 1) = if (edAt es (k : Int)).c ≤ c then idxT c es k ++ [(k : Int)] else idxT c es k := by
  unfold idxT
  rw [List.range_succ, List.filter_append, List.map_append]
  by_cases h : (edAt es (k : Int)).c ≤ c
  · rw [if_pos h, List.filter_cons, if_pos (by simpa using h)]
    rfl
  · rw [if_neg h, List.filter_cons, if_neg (by simpa using h)]
    simp
theorem idxT_len (c : Int) (es : List Ed) (k : Nat) : (idxT c es k).length ≤ k := by
  unfold idxT
  rw [List.length_map]
  have := List.length_filter_le (fun (i : Nat) => decide ((edAt es (i : Int)).c ≤ c)) (List.range k)
  simpa using this
theorem idxT_mem {c : Int} {es : List Ed} {k : Nat} {x : Int} : x ∈ idxT c es k ↔ ∃ i : Nat, x = (i : Int) ∧ i < k ∧ (edAt es (i : Int)).c ≤ c := by
  unfold idxT
  simp only [List.mem_map, List.mem_filter, List.mem_range, decide_eq_true_eq]
  constructor
  · rintro ⟨i, ⟨h1, h2⟩, rfl⟩; exact ⟨i, rfl, h1, h2⟩
  · rintro ⟨i, rfl, h1, h2⟩; exact ⟨i, ⟨h1, h2⟩, rfl⟩
theorem idxT_pairs {c : Int} {es : List Ed} {p : Nat × Nat} : p ∈ natPairs ((idxT c es es.length).map (pairI es)) ↔ p ∈ natPairs (thrP c es) := by
  rw [thr_mem]
  unfold natPairs
  rw [List.map_map, List.mem_map]
  constructor
  · rintro ⟨x, hx, rfl⟩
    obtain ⟨i, rfl, hi, hc⟩ := idxT_mem.1 hx
    refine ⟨i, hi, by rwa [edAt_c hi] at hc, ?_⟩
    rw [← edAt_uv hi]
    simp [pairI]
  · rintro ⟨i, hi, hc, rfl⟩
    refine ⟨(i : Int), idxT_mem.2 ⟨i, rfl, hi, by rwa [edAt_c hi]⟩, ?_⟩
    rw [← edAt_uv hi]
    simp [pairI]
theorem conn_idx {c : Int} {es : List Ed} {a b : Nat} : Conn (natPairs ((idxT c es es.length).map (pairI es))) a b ↔ JN es a b c := ⟨Conn.mono fun p hp => idxT_pairs.1 hp, Conn.mono fun p hp => idxT_pairs.2 hp⟩
theorem unallocD {B : Nat} {w w' : World} {o : Obj} (h : Below B (w.alloc o).drew w') (hB : B ≤ w.heap.size) : Below B w w' := ((Below.refl B w).alloc hB o).drew.trans h
theorem info_pair : (Try.prog.info? 95).map (fun i => (i.zero, i.size, i.bytes)) = some (some (.agg #[.int .i64 0, .int .i64 0]), 2, 16) := by kernel_rfl
set_option maxRecDepth 100000 in
set_option maxHeartbeats 4000000 in
theorem rjoined_any (n : Nat) (an : Option Addr) (cap : Nat) (es : List Ed) (al : Option Addr) (cl q : Nat) (l : List Int) (a b : Nat) (w : World) (B : Nat) (hB : B ≤ w.heap.size) (hE : Row encE 3 w B an es) (hL : Row encI 1 w B al l) (hq : l.length = q) (hq6 : q ≤ 600) (hn : n ≤ 64) (hes : Right n es) (hl : ∀ x ∈ l, ∃ i : Nat, x = (i : Int) ∧ i < es.length) (hes6 : es.length ≤ 600) (ha : a < n) (hb : b < n) :
    Calls Try.prog 79 #[.agg #[.int .i64 (n : Int), .slice an es.length cap], .slice al q cl, .int .i64 (a : Int), .int .i64 (b : Int)] w fun e w' => ∃ t : Bool, e = .returned (.bool t) ∧ (t = true ↔ Conn (natPairs (l.map (pairI es))) a b) ∧ Below w.heap.size w w' := by
  replace hE := hide hE
  replace hL := hide hL
  replace hl := hide hl
  replace hes := hide hes
  replace hq := hide hq
  go_enter Try.func79, Try.ntmps79
  go_wp2
  obtain ⟨w0, h0⟩ : ∃ w0, w0 = w.alloc (.cells #[.int .i64 (n : Int), .slice an es.length cap] 24) := ⟨_, rfl⟩
  have hB0 := hide (show Below w.heap.size w w0 by rw [h0]; exact (Below.refl _ _).alloc (Nat.le_refl _) _)
  have c0 : w0.cell? ⟨w.heap.size, 0, none⟩ = some (.int .i64 (n : Int)) := by rw [h0]; simp [go_sem]
  have c1 : w0.cell? ⟨w.heap.size, 1, none⟩ = some (.slice an es.length cap) := by rw [h0]; simp [go_sem]
  have hz0 : w.heap.size < w0.heap.size := cell_lt c0
  simp only [← h0]
  replace h0 := hide h0
  go_loopw [9, 11, 15] (fun s9 _ i wr => ∃ (k : Nat) (av : Option Addr) (cv : Nat), k ≤ q ∧ i = .int .i64 k ∧ s9 = .slice av k cv ∧ Hid (Own encP 2 95 wr w0.heap.size (.slice av k cv) ((l.take k).map (pairI es))) ∧ Hid (Below w0.heap.size w0 wr)) (fun _ _ i _ => q - (intOf i).toNat)
  case atStart => exact ⟨0, none, 0, Nat.zero_le _, rfl, rfl, hide (Own.nil _ _), hide (Below.refl _ _)⟩
  case round =>
    obtain ⟨k, av, cv, hk, rfl, rfl, own, hbr⟩ := hrel
    have hzr := hbr.out.size
    have hbw := hide (hB0.out.trans (hbr.out.mono (by omega)))
    have k0 := cu_below hbr.out c0 (by simpa using hz0)
    have k1 := cu_below hbr.out c1 (by simpa using hz0)
    have hzx : w.heap.size < wr.heap.size := by omega
    clear c0 c1
    by_cases hlt : k < q
    · have hkl : k < l.length := by rw [hq.out]; exact hlt
      obtain ⟨i, hi1, hi⟩ := hl.out _ (List.getElem_mem hkl)
      obtain ⟨u, v, e1, e2, e3, e4, e5, e6, -⟩ := right_edge hes.out i hi
      obtain ⟨eb, eo, rfl, heb, q0, q1, q2⟩ := hE.out.ed i hi
      obtain ⟨bl, ol, rfl, hbl, l0⟩ := hL.out.int k hkl
      rw [hi1] at l0
      rw [e1] at q0
      rw [e2] at q1
      have q0 := cu_below hbw.out q0 (by simp; omega)
      have q1 := cu_below hbw.out q1 (by simp; omega)
      have l0 := cu_below hbw.out l0 (by simp; omega)
      have hebx : eb < wr.heap.size := by omega
      have hblx : bl < wr.heap.size := by omega
      have htk := hide (show (l.take (k + 1)).map (pairI es) = (l.take k).map (pairI es) ++ [⟨(u : Int), (v : Int)⟩] by
        rw [List.take_succ_eq_append_getElem hkl, List.map_append, hi1]
        simp [pairI, edAt_is hi e1 e2])
      have hln := hide (show ((l.take k).map (pairI es)).length = k by rw [List.length_map, List.length_take]; omega)
      replace hi1 := hide hi1
      replace e1 := hide e1
      replace e2 := hide e2
      have ik : (0 : Int) ≤ (k : Int) ∧ (k : Int) < (q : Int) := by omega
      have ii : (0 : Int) ≤ (i : Int) ∧ (i : Int) < (es.length : Int) := by omega
      clear q2 e5 e6
      go_wp2
      go_region_law (first
        | (refine step_pushL (base := w0.heap.size) (e := 95) (enc := encP) (xs := (l.take k).map (pairI es)) (v := .slice av k cv) rfl (.tmp 19) (.tmp 33) 148 rfl _ 16 Try.underlying148 info_pair rfl (by omega) lenP oneP k hln.out rfl ?_ ⟨wr.heap.size, 0, none⟩ 1 ⟨(u : Int), (v : Int)⟩ rfl (newP _ _ _ _ (by simp)) (by omega) (by unfold maxLen; omega) ?_ ?_; (next => first | exact (own.out.alloc _) | exact (own.out.alloc _).drew | exact (own.out.drew).alloc _); (next => first | omega | (simp; omega)); intro g1 c1 w1 own1 hb1 hgr1 hat1 hgl1; have hB1 := hide (show Below w0.heap.size wr w1 by first | exact unallocD hb1 (by omega) | exact unalloc hb1 (by omega))))
      all_goals
        replace own1 := hide own1
        replace hb1 := hide hb1
        replace hgr1 := hide hgr1
        go_wp2
        go_roundw
        case rel => exact ⟨k + 1, _, _, by omega, by go_num, rfl, hide (by rw [htk.out]; exact own1.out), hide (hbr.out.trans hB1.out)⟩
        case measure => simp [intOf]; omega
    · obtain rfl : k = q := by omega
      have hfull := hide (show (l.take k).map (pairI es) = l.map (pairI es) by rw [List.take_of_length_le (by have := hq.out; omega)])
      obtain ⟨a', c', hv', hrp, _⟩ := own.out.row lenP
      injection hv' with g1 g2 g3
      subst g1 g3
      clear g2
      rw [hfull.out] at hrp
      replace hrp := hide hrp
      have hpl := hide (show (l.map (pairI es)).length = k by rw [List.length_map]; exact hq.out)
      have hpr := hide (show ∀ p ∈ l.map (pairI es), 0 ≤ p.a ∧ p.a < (n : Int) ∧ 0 ≤ p.b ∧ p.b < (n : Int) from by
        intro p hp
        obtain ⟨x, hx, rfl⟩ := List.mem_map.1 hp
        obtain ⟨i, rfl, hi⟩ := hl.out x hx
        obtain ⟨u, v, e1, e2, e3, e4, -⟩ := right_edge hes.out i hi
        simp only [pairI, edAt_is hi e1 e2]
        omega)
      have hconn := hide (rounds_conn (n := n) (l := natPairs (l.map (pairI es))) (fun p hp => by
        obtain ⟨x, hx, rfl⟩ := List.mem_map.1 hp
        have := hpr.out x hx
        simp only
        omega) ha hb)
      have hGr := hide (by have := rgroups_any n av cv (l.map (pairI es)) wr wr.heap.size (Nat.le_refl _) hrp.out hn (by rw [hpl.out]; omega) hpr.out; rw [hpl.out] at this; exact this)
      go_wp2_with fail
      refine hGr.out.mono ?_
      rintro e w2 ⟨g, rfl, ownG, hb2⟩
      unfold grpOf at ownG
      have d1 := ownG.getI a (by rw [lst_len]; exact ha)
      have d2 := ownG.getI b (by rw [lst_len]; exact hb)
      rw [lst_get] at d1 d2
      have hgl := ownG.at_base.2
      have ia : (0 : Int) ≤ (a : Int) ∧ (a : Int) < (n : Int) := by omega
      have ib : (0 : Int) ≤ (b : Int) ∧ (b : Int) < (n : Int) := by omega
      replace ownG := hide ownG
      have hb3 := hide (hbw.out.trans (hb2.mono hbw.out.size))
      generalize rounds (natPairs (l.map (pairI es))) n a = ra at *
      generalize rounds (natPairs (l.map (pairI es))) n b = rb at *
      clear hb2 k0 k1
      go_wp2
      go_quiet (fail)
      go_wp2
      go_ret
      exact ⟨_, rfl, by rw [← hconn.out]; simp [Int.natCast_inj], up_drewN hb3.out⟩
end Go.Proofs.Ytgkiipmeigfjnaa

/-! What the reference's Neck returns. Conditions: a right net, places in bounds. -/
namespace Go.Proofs.Ytgkiipmeigfjnaa
open Go.RowKit
set_option linter.unusedSimpArgs false
set_option linter.unusedVariables false
/-- a neck and an error handed back -/
def NeckBack (es : List Ed) (a b : Nat) (w : World) (e : Ending) (w' : World) : Prop := ∃ best x, e = .returned (.tuple #[.int .i64 best, .int .i64 x]) ∧ NeckAns (JN es a b) es best x ∧ Below w.heap.size w w'
theorem neck_x {J : Int → Prop} {es : List Ed} {best x : Int} (h : NeckAns J es best x) : x = 0 ∨ x = 5 := by
  rcases h with ⟨h1, _⟩ | ⟨h1, _⟩
  · exact .inr h1
  · exact .inl h1
set_option maxRecDepth 100000 in
set_option maxHeartbeats 4000000 in
theorem rneck_any (n a b : Nat) (an : Option Addr) (cap : Nat) (es : List Ed) (w : World) (B : Nat) (hB : B ≤ w.heap.size) (hE : Row encE 3 w B an es) (hn : n ≤ 64) (hl : es.length ≤ 600) (hes : Right n es) (ha : a < n) (hb : b < n) :
    Calls Try.prog 26 #[.agg #[.int .i64 (n : Int), .slice an es.length cap], .int .i64 (a : Int), .int .i64 (b : Int)] w (NeckBack es a b w) := by
  have hJ := hide (fun c al cl q (hq : (idxT c es es.length).length = q) w B hB hE hL => rjoined_any n an cap es al cl q (idxT c es es.length) a b w B hB hE hL hq (by have := idxT_len c es es.length; omega) hn hes (fun x hx => by obtain ⟨i, h1, h2, _⟩ := idxT_mem.1 hx; exact ⟨i, h1, h2⟩) hl ha hb)
  replace hE := hide hE
  replace hes := hide hes
  go_enter Try.func26, Try.ntmps26
  go_wp2
  obtain ⟨w0, h0⟩ : ∃ w0, w0 = w.alloc (.cells #[.int .i64 (n : Int), .slice an es.length cap] 24) := ⟨_, rfl⟩
  have hB0 := hide (show Below w.heap.size w w0 by rw [h0]; exact (Below.refl _ _).alloc (Nat.le_refl _) _)
  have c0 : w0.cell? ⟨w.heap.size, 0, none⟩ = some (.int .i64 (n : Int)) := by rw [h0]; simp [go_sem]
  have c1 : w0.cell? ⟨w.heap.size, 1, none⟩ = some (.slice an es.length cap) := by rw [h0]; simp [go_sem]
  have hz0 : w.heap.size < w0.heap.size := cell_lt c0
  simp only [← h0]
  replace h0 := hide h0
  go_loopw [8, 9, 11, 12, 13, 14, 18] (fun s8 s9 _ _ _ _ i wr => ∃ (k : Nat) (best x : Int), k ≤ es.length ∧ i = .int .i64 k ∧ s8 = .int .i64 best ∧ s9 = .int .i64 x ∧ Hid (NeckAns (JN es a b) (es.take k) best x) ∧ Hid (Below w0.heap.size w0 wr)) (fun _ _ _ _ _ _ i _ => es.length - (intOf i).toNat)
  case atStart => exact ⟨0, 0, 5, Nat.zero_le _, rfl, rfl, rfl, hide (by simpa using neck_start (JN es a b)), hide (Below.refl _ _)⟩
  case round =>
    obtain ⟨k, best, x, hk, rfl, rfl, rfl, hN, hbr⟩ := hrel
    have hzr := hbr.out.size
    have hbw := hide (hB0.out.trans (hbr.out.mono (by omega)))
    have k0 := cu_below hbr.out c0 (by simpa using hz0)
    have k1 := cu_below hbr.out c1 (by simpa using hz0)
    have hzx : w.heap.size < wr.heap.size := by omega
    clear c0 c1
    by_cases hlt : k < es.length
    · obtain ⟨eb, eo, rfl, heb, q0, q1, q2⟩ := hE.out.ed k hlt
      have q0 := cu_below hbw.out q0 (by simp; omega)
      have q1 := cu_below hbw.out q1 (by simp; omega)
      have q2 := cu_below hbw.out q2 (by simp; omega)
      have hebx : eb < wr.heap.size := by omega
      obtain ⟨ek, hek⟩ : ∃ ek, ek = es[k] := ⟨_, rfl⟩
      have htake := hide (fun (best x : Int) (h : NeckAns (JN es a b) (es.take k) best x) => (⟨fun hj hq => by rw [hek]; rw [hek] at hj hq; exact neck_take hlt h hj hq, fun hq => by rw [hek] at hq; exact neck_keep hlt h hq⟩ : (JN es a b ek.c → (x ≠ 0 ∨ ek.c < best) → NeckAns (JN es a b) (es.take (k + 1)) ek.c 0) ∧ ((¬ JN es a b ek.c ∨ (x = 0 ∧ best ≤ ek.c)) → NeckAns (JN es a b) (es.take (k + 1)) best x)))
      rw [← hek] at q0 q1 q2
      have hec := hide (hes.out es[k] (List.getElem_mem hlt))
      rw [← hek] at hec
      replace hek := hide hek
      have ik : (0 : Int) ≤ (k : Int) ∧ (k : Int) < (es.length : Int) := by omega
      obtain ⟨wx, hwx⟩ : ∃ wx, wx = wr.alloc (.cells #[.int .i64 ek.u, .int .i64 ek.v, .int .i64 ek.c] 26) := ⟨_, rfl⟩
      have hbx : Below wr.heap.size wr wx := by rw [hwx]; exact (Below.refl _ _).alloc (Nat.le_refl _) _
      have x2 : wx.cell? ⟨wr.heap.size, 2, none⟩ = some (.int .i64 ek.c) := by rw [hwx]; simp [go_sem]
      have x0 := cu_below hbx k0 (by simpa using hzx)
      have x1 := cu_below hbx k1 (by simpa using hzx)
      have hzy : wr.heap.size < wx.heap.size := by have := cell_lt x2; simpa using this
      have hbwx := hide (hbw.out.trans (hbx.mono hbw.out.size))
      have hbrx := hide (hbr.out.trans (hbx.mono hzr))
      clear hbx
      replace hwx := hide hwx
      obtain ⟨wo, rfl⟩ : ∃ wo : World, wo = wr := ⟨_, rfl⟩
      go_wp2
      simp only [← hwx.out]
      clear k0 k1 q0 q1 q2
      go_loopw [12, 13, 14, 25] (fun s12 _ _ i wr => ∃ (j p : Nat) (av : Option Addr) (cv : Nat), j ≤ es.length ∧ p ≤ j ∧ i = .int .i64 j ∧ s12 = .slice av p cv ∧ Hid ((idxT ek.c es j).length = p) ∧ Hid (Own encI 1 3 wr wx.heap.size (.slice av p cv) (idxT ek.c es j)) ∧ Hid (Below wx.heap.size wx wr)) (fun _ _ _ i _ => es.length - (intOf i).toNat)
      case atStart => exact ⟨0, 0, none, 0, Nat.zero_le _, Nat.le_refl _, rfl, rfl, hide rfl, hide (Own.nil _ _), hide (Below.refl _ _)⟩
      case round =>
        obtain ⟨j, p, av, cv, hj, hp, rfl, rfl, hpl, own, hb2⟩ := hrel
        have hz2 := hb2.out.size
        have y2 := cu_below hb2.out x2 (by simpa using hzy)
        have y0 := cu_below hb2.out x0 (by simp; omega)
        have y1 := cu_below hb2.out x1 (by simp; omega)
        have hzw : wo.heap.size < wr.heap.size := by omega
        have hzv : w.heap.size < wr.heap.size := by omega
        have hbwr := hide (hbwx.out.trans (hb2.out.mono hbwx.out.size))
        clear x0 x1 x2
        by_cases hjl : j < es.length
        · obtain ⟨eb2, eo2, hee, heb2, r0, r1, r2⟩ := hE.out.ed j hjl
          simp only [Option.some.injEq, Addr.mk.injEq] at hee
          obtain ⟨rfl, rfl, _⟩ := hee
          have r0 := cu_below hbwr.out r0 (by simp; omega)
          have r1 := cu_below hbwr.out r1 (by simp; omega)
          have r2 := cu_below hbwr.out r2 (by simp; omega)
          have hebr : eb < wr.heap.size := by omega
          have hidx := hide (idxT_succ ek.c es j)
          rw [edAt_c hjl] at hidx
          obtain ⟨ej, hej⟩ : ∃ ej, ej = es[j] := ⟨_, rfl⟩
          rw [← hej] at r0 r1 r2 hidx
          replace hej := hide hej
          have ij : (0 : Int) ≤ (j : Int) ∧ (j : Int) < (es.length : Int) := by omega
          by_cases hle : ej.c ≤ ek.c
          · have hid2 := hide (show idxT ek.c es (j + 1) = idxT ek.c es j ++ [(j : Int)] by rw [hidx.out, if_pos hle])
            clear hidx
            go_wp2_with (at_builtin; (refine wpList_push (e := 3) (enc := encI) (xs := idxT ek.c es j) (v := .slice av (p) cv) (base := wx.heap.size) rfl (.tmp 35) (.tmp 37) 34 rfl _ 8 Try.underlying34 info_int rfl ?d11 lenI oneI (p) ?d21 ?d31 ?d41 ⟨wr.heap.size + 1, 0, none⟩ 1 (j : Int) ?d51 ?d61 ?d71 ?d81 ?d91 ?_); (case d11 => omega); (case d21 => exact hpl.out); (case d31 => rfl); (case d41 => exact (own.out.alloc _).alloc _); (case d51 => rfl); (case d61 => exact newI _ _ _ _ (by simp)); (case d71 => omega); (case d81 => unfold maxLen; omega); (case d91 => first | omega | (simp; done) | (simp; omega)); intro g1 c1 w1 own1 hb1 hgr1 hg1 hgl1; have hB1 := hide (unalloc (unalloc hb1 (by simp; omega)) (by omega)); replace own1 := hide own1; replace hb1 := hide hb1; replace hgr1 := hide hgr1)
            go_roundw
            case rel => exact ⟨j + 1, p + 1, _, _, by omega, by omega, by go_num, rfl, hide (by rw [hid2.out, List.length_append, hpl.out]; rfl), hide (by rw [hid2.out]; exact own1.out), hide (hb2.out.trans hB1.out)⟩
            case measure => simp [intOf]; omega
          · have hid2 := hide (show idxT ek.c es (j + 1) = idxT ek.c es j by rw [hidx.out, if_neg hle])
            clear hidx
            go_wp2
            go_roundw
            case rel => exact ⟨j + 1, p, av, cv, by omega, by omega, by go_num, rfl, hide (by rw [hid2.out]; exact hpl.out), hide (by rw [hid2.out]; exact own.out.alloc _), hide (hb2.out.alloc hz2 _)⟩
            case measure => simp [intOf]; omega
        · obtain rfl : j = es.length := by omega
          obtain ⟨a', c', hv', hrp, _⟩ := own.out.row lenI
          injection hv' with g1 g2 g3
          subst g1 g3
          clear g2
          replace hrp := hide hrp
          go_wp2_with fail
          refine (hJ.out ek.c av cv p hpl.out wr wr.heap.size (Nat.le_refl _) ((hE.out.below hbwr.out hB).mono (by omega)) hrp.out).mono ?_
          rintro e w5 ⟨t, rfl, ht, hb5⟩
          have ht2 := hide (ht.trans conn_idx)
          have z2 := cu_below hb5 y2 (by simp; omega)
          have z0 := cu_below hb5 y0 (by simp; omega)
          have z1 := cu_below hb5 y1 (by simp; omega)
          have hz5 := hb5.size
          have hbf := hide (hbrx.out.trans ((hb2.out.trans (hb5.mono hz2)).mono (by omega)))
          have hzw5 : wo.heap.size < w5.heap.size := by omega
          clear ht hb5 y0 y1 y2
          have hxx := neck_x hN.out
          cases t with
          | false =>
            have hN2 := hide ((htake.out best x hN.out).2 (.inl (fun h => by have := ht2.out.2 h; cases this)))
            clear hxx
            go_wp2
            go_roundw
            case rel => exact ⟨k + 1, best, x, by omega, by go_num, rfl, rfl, hN2, hbf⟩
            case measure => simp [intOf]; omega
          | true =>
            have hj2 := hide (ht2.out.1 rfl)
            rcases hxx with rfl | rfl
            · by_cases hlt2 : ek.c < best
              · have hN2 := hide ((htake.out best 0 hN.out).1 hj2.out (.inr hlt2))
                go_wp2
                go_roundw
                case rel => exact ⟨k + 1, _, 0, by omega, by go_num, rfl, rfl, hN2, hbf⟩
                case measure => simp [intOf]; omega
              · have hN2 := hide ((htake.out best 0 hN.out).2 (.inr ⟨rfl, by omega⟩))
                go_wp2
                go_roundw
                case rel => exact ⟨k + 1, best, 0, by omega, by go_num, rfl, rfl, hN2, hbf⟩
                case measure => simp [intOf]; omega
            · have hN2 := hide ((htake.out best 5 hN.out).1 hj2.out (.inl (by omega)))
              go_wp2
              go_roundw
              case rel => exact ⟨k + 1, _, 0, by omega, by go_num, rfl, rfl, hN2, hbf⟩
              case measure => simp [intOf]; omega
    · obtain rfl : k = es.length := by omega
      have hN2 := hN.out
      rw [List.take_length] at hN2
      replace hN2 := hide hN2
      go_wp2
      go_ret2
      exact ⟨best, x, rfl, hN2.out, hbw.out⟩
end Go.Proofs.Ytgkiipmeigfjnaa

/-! What span.Neck returns. Conditions: that the slice reads. -/
namespace Go.Proofs.Ytgkiipmeigfjnaa
open Go.RowKit
set_option linter.unusedSimpArgs false
set_option linter.unusedVariables false
set_option maxRecDepth 100000 in
set_option maxHeartbeats 1000000 in
theorem neck_bad (N a b : Int) (an : Option Addr) (cap : Nat) (es : List Ed) (w : World) (B : Nat) (hB : B ≤ w.heap.size) (hE : Row encE 3 w B an es) (hl : es.length ≤ 9223372036854775807) (h0 : netErr N es ≠ 0) :
    Calls Try.prog 15 #[.agg #[.int .i64 N, .slice an es.length cap], .int .i64 a, .int .i64 b] w fun e w' => e = .returned (.tuple #[.int .i64 0, .int .i64 (netErr N es)]) ∧ Below w.heap.size w w' := by
  have q0 : (netErr N es != 0) = true := by simp [h0]
  replace hE := hide hE
  clear h0
  go_enter Try.func15, Try.ntmps15
  go_wp2_with fail
  refine (check_any N an cap es _ B (by simp <;> omega) (hE.out.below ((by repeat (first | with_reducible exact Below.refl _ _ | with_reducible assumption | with_reducible refine up_drewN ?_ | with_reducible refine up_drew ?_ | (with_reducible refine up_alloc ?_ ?_; rotate_left; (first | omega | (simp <;> omega) | simp)) | (with_reducible refine up_set ?_ ?_; rotate_left; (first | omega | (simp <;> omega) | simp)) | (with_reducible refine Below.trans ?_ (Below.mono (by with_reducible assumption) ?_); rotate_left; (first | omega | (simp <;> omega) | simp)))) : Below w.heap.size w _) hB) hl).mono ?_
  rintro e w1 ⟨rfl, hb1⟩
  go_wp2
  go_ret2
  exact ⟨rfl, (by repeat (first | with_reducible exact Below.refl _ _ | with_reducible assumption | with_reducible refine up_drewN ?_ | with_reducible refine up_drew ?_ | (with_reducible refine up_alloc ?_ ?_; rotate_left; (first | omega | (simp <;> omega) | simp)) | (with_reducible refine up_set ?_ ?_; rotate_left; (first | omega | (simp <;> omega) | simp)) | (with_reducible refine Below.trans ?_ (Below.mono (by with_reducible assumption) ?_); rotate_left; (first | omega | (simp <;> omega) | simp))))⟩
set_option maxRecDepth 100000 in
set_option maxHeartbeats 2000000 in
theorem neck_arg (N a b : Int) (an : Option Addr) (cap : Nat) (es : List Ed) (w : World) (B : Nat) (hB : B ≤ w.heap.size) (hE : Row encE 3 w B an es) (hl : es.length ≤ 9223372036854775807) (h0 : netErr N es = 0) (hab : a < 0 ∨ N ≤ a ∨ b < 0 ∨ N ≤ b ∨ a = b) :
    Calls Try.prog 15 #[.agg #[.int .i64 N, .slice an es.length cap], .int .i64 a, .int .i64 b] w fun e w' => e = .returned (.tuple #[.int .i64 0, .int .i64 1]) ∧ Below w.heap.size w w' := by
  have hC := hide (show ∀ w B, _ from fun w B hB hE => by have := check_any N an cap es w B hB hE hl; rwa [h0] at this)
  replace hE := hide hE
  clear h0
  have hd : a < 0 ∨ (0 ≤ a ∧ N ≤ a) ∨ (0 ≤ a ∧ a < N ∧ b < 0) ∨ (0 ≤ a ∧ a < N ∧ 0 ≤ b ∧ N ≤ b) ∨ (0 ≤ a ∧ a < N ∧ 0 ≤ b ∧ b < N ∧ (a == b) = true) := by
    by_cases h : a = b
    · subst h; simp only [beq_self_eq_true, and_true]; omega
    · omega
  clear hab
  rcases hd with h1 | ⟨h1, h2⟩ | ⟨h1, h2, h3⟩ | ⟨h1, h2, h3, h4⟩ | ⟨h1, h2, h3, h4, h5⟩
  all_goals
    go_enter Try.func15, Try.ntmps15
    go_wp2_with fail
    refine (hC.out _ B (by simp <;> omega) (hE.out.below ((by repeat (first | with_reducible exact Below.refl _ _ | with_reducible assumption | with_reducible refine up_drewN ?_ | with_reducible refine up_drew ?_ | (with_reducible refine up_alloc ?_ ?_; rotate_left; (first | omega | (simp <;> omega) | simp)) | (with_reducible refine up_set ?_ ?_; rotate_left; (first | omega | (simp <;> omega) | simp)) | (with_reducible refine Below.trans ?_ (Below.mono (by with_reducible assumption) ?_); rotate_left; (first | omega | (simp <;> omega) | simp)))) : Below w.heap.size w _) hB)).mono ?_
    rintro e w1 ⟨rfl, hb1⟩
    have k0 : w1.cell? ⟨w.heap.size, 0, none⟩ = some (.int .i64 N) := cu_below hb1 (by simp [go_sem]) (by simp <;> omega)
    have k2 : w1.cell? ⟨w.heap.size + 1, 0, none⟩ = some (.int .i64 a) := cu_below hb1 (by simp [go_sem]) (by simp <;> omega)
    have k3 : w1.cell? ⟨w.heap.size + 1 + 1, 0, none⟩ = some (.int .i64 b) := cu_below hb1 (by simp [go_sem]) (by simp <;> omega)
    have hz1 : w.heap.size + 1 + 1 < w1.heap.size := cell_lt k3
    have hz2 : w.heap.size + 1 < w1.heap.size := by omega
    have hz3 : w.heap.size < w1.heap.size := by omega
    have hbw := hide (show Below w.heap.size w w1 from (by repeat (first | with_reducible exact Below.refl _ _ | with_reducible assumption | with_reducible refine up_drewN ?_ | with_reducible refine up_drew ?_ | (with_reducible refine up_alloc ?_ ?_; rotate_left; (first | omega | (simp <;> omega) | simp)) | (with_reducible refine up_set ?_ ?_; rotate_left; (first | omega | (simp <;> omega) | simp)) | (with_reducible refine Below.trans ?_ (Below.mono (by with_reducible assumption) ?_); rotate_left; (first | omega | (simp <;> omega) | simp)))))
    clear hb1
    go_wp2
    go_ret2
    exact ⟨rfl, hbw.out⟩
set_option maxRecDepth 100000 in
set_option maxHeartbeats 2000000 in
theorem neck_ok (n a b : Nat) (an : Option Addr) (cap : Nat) (es : List Ed) (w : World) (B : Nat) (hB : B ≤ w.heap.size) (hE : Row encE 3 w B an es) (hl : es.length ≤ 9223372036854775807) (h0 : netErr (n : Int) es = 0) (ha : a < n) (hb : b < n) (hab : a ≠ b) :
    Calls Try.prog 15 #[.agg #[.int .i64 (n : Int), .slice an es.length cap], .int .i64 (a : Int), .int .i64 (b : Int)] w (NeckBack es a b w) := by
  obtain ⟨n1, n2, n3, n4⟩ := netErr_ok h0
  have hes : Right n es := n4
  have hC := hide (show ∀ w B, _ from fun w B hB hE => by have := check_any (n : Int) an cap es w B hB hE hl; rwa [h0] at this)
  have hT := hide (fun ba bb bg bn be w B hB hE => tree_neck n a b an cap es ba bb bg bn be w B hB hE (by omega) (by omega) n3 hes ha hb hab)
  have q1 : (0 : Int) ≤ (a : Int) ∧ (a : Int) < (n : Int) := by omega
  have q2 : (0 : Int) ≤ (b : Int) ∧ (b : Int) < (n : Int) := by omega
  have q3 : ((a : Int) == (b : Int)) = false := by simp; omega
  replace hE := hide hE
  clear h0 n4 hes
  go_enter Try.func15, Try.ntmps15
  go_wp2_with fail
  refine (hC.out _ B (by simp <;> omega) (hE.out.below ((by repeat (first | with_reducible exact Below.refl _ _ | with_reducible assumption | with_reducible refine up_drewN ?_ | with_reducible refine up_drew ?_ | (with_reducible refine up_alloc ?_ ?_; rotate_left; (first | omega | (simp <;> omega) | simp)) | (with_reducible refine up_set ?_ ?_; rotate_left; (first | omega | (simp <;> omega) | simp)) | (with_reducible refine Below.trans ?_ (Below.mono (by with_reducible assumption) ?_); rotate_left; (first | omega | (simp <;> omega) | simp)))) : Below w.heap.size w _) hB)).mono ?_
  rintro e w1 ⟨rfl, hb1⟩
  have k0 : w1.cell? ⟨w.heap.size, 0, none⟩ = some (.int .i64 (n : Int)) := cu_below hb1 (by simp [go_sem]) (by simp <;> omega)
  have k1 : w1.cell? ⟨w.heap.size, 1, none⟩ = some (.slice an es.length cap) := cu_below hb1 (by simp [go_sem]) (by simp <;> omega)
  have k2 : w1.cell? ⟨w.heap.size + 1, 0, none⟩ = some (.int .i64 (a : Int)) := cu_below hb1 (by simp [go_sem]) (by simp <;> omega)
  have k3 : w1.cell? ⟨w.heap.size + 1 + 1, 0, none⟩ = some (.int .i64 (b : Int)) := cu_below hb1 (by simp [go_sem]) (by simp <;> omega)
  have hz1 : w.heap.size + 1 + 1 < w1.heap.size := cell_lt k3
  have hz2 : w.heap.size + 1 < w1.heap.size := by omega
  have hz3 : w.heap.size < w1.heap.size := by omega
  have hbw := hide (show Below w.heap.size w w1 from (by repeat (first | with_reducible exact Below.refl _ _ | with_reducible assumption | with_reducible refine up_drewN ?_ | with_reducible refine up_drew ?_ | (with_reducible refine up_alloc ?_ ?_; rotate_left; (first | omega | (simp <;> omega) | simp)) | (with_reducible refine up_set ?_ ?_; rotate_left; (first | omega | (simp <;> omega) | simp)) | (with_reducible refine Below.trans ?_ (Below.mono (by with_reducible assumption) ?_); rotate_left; (first | omega | (simp <;> omega) | simp)))))
  clear hb1 hC
  go_wp2_with fail
  refine (hT.out (w.heap.size + 1) (w.heap.size + 1 + 1) w.heap.size w1.heap.size (w1.heap.size + 1) _ B (by simp; omega) (hE.out.below (up_alloc (up_alloc hbw.out (by omega)) (by simp; omega)) hB) (cu_alloc (cu_alloc k2)) (cu_alloc (cu_alloc k3)) (cu_alloc (cu_alloc k1)) (by simp [go_sem]) (by simp [go_sem]) (by simp [go_sem]) (by simp [go_sem]) (by omega)).mono ?_
  rintro e w2 ⟨v, best, x, rfl, hN, d1, d2, hK⟩
  have l1 := cell_lt d1
  have l2 := cell_lt d2
  have hbf := hide (((up_alloc (up_alloc hbw.out (by omega)) (by simp; omega)) : Below w.heap.size w _).trans (hK.toBelow (fun j hj => by omega) (by simp; omega)))
  replace hN := hide hN
  clear hK k0 k1 k2 k3
  go_wp2
  go_quiet (fail)
  go_wp2
  go_ret2
  exact ⟨best, x, rfl, hN.out, up_drewN hbf.out⟩
end Go.Proofs.Ytgkiipmeigfjnaa

/-! Necks and widths: with costs turned round and edges both ways the width is the neck turned over. No program here. -/
namespace Go.Proofs.Ytgkiipmeigfjnaa
set_option linter.unusedVariables false
/-- both ways, costs turned round -/
def turnE (es : List Ed) : List Ed := es.flatMap fun x => [(⟨x.u, x.v, -x.c⟩ : Ed), ⟨x.v, x.u, -x.c⟩]
theorem turnE_nil : turnE [] = [] := rfl
theorem turnE_len (es : List Ed) : (turnE es).length = 2 * es.length := by
  unfold turnE
  induction es with
  | nil => rfl
  | cons x r ih => simp only [List.flatMap_cons, List.length_append, ih, List.length_cons, List.length_nil]; omega
theorem turnE_take {es : List Ed} {j : Nat} (h : j < es.length) : turnE (es.take (j + 1)) = turnE (es.take j) ++ [(⟨es[j].u, es[j].v, -es[j].c⟩ : Ed), ⟨es[j].v, es[j].u, -es[j].c⟩] := by
  unfold turnE
  rw [List.take_succ_eq_append_getElem h, List.flatMap_append]
  simp
theorem turnE_mem {es : List Ed} {e : Ed} : e ∈ turnE es ↔ ∃ x ∈ es, e = ⟨x.u, x.v, -x.c⟩ ∨ e = ⟨x.v, x.u, -x.c⟩ := by
  unfold turnE
  rw [List.mem_flatMap]
  simp
theorem turn_right {n : Nat} {es : List Ed} (h : Right n es) : Right n (turnE es) := by
  intro e he
  obtain ⟨x, hx, rfl | rfl⟩ := turnE_mem.1 he
  · have := h x hx; simp only; omega
  · have := h x hx; simp only; omega
theorem lead_conn {n : Nat} {es : List Ed} (t : Int) (a b : Nat) : Lead (nes (turnE es)) (geE t) a b ↔ JN es a b (-t) := by
  classical
  constructor
  · intro h g hg
    induction h with
    | refl => rfl
    | step e h he hi ih =>
      obtain ⟨y, hy, rfl⟩ := nes_mem he
      simp only [geE, decide_eq_true_eq] at hi
      obtain ⟨x, hx, rfl | rfl⟩ := turnE_mem.1 hy
      · obtain ⟨i, hi2, rfl⟩ := List.getElem_of_mem hx
        have := hg _ (thr_mem.2 ⟨i, hi2, by simp only at hi; omega, rfl⟩)
        simp only at this ih ⊢
        omega
      · obtain ⟨i, hi2, rfl⟩ := List.getElem_of_mem hx
        have := hg _ (thr_mem.2 ⟨i, hi2, by simp only at hi; omega, rfl⟩)
        simp only at this ih ⊢
        omega
  · intro h
    have hg : Resp (natPairs (thrP (-t) es)) (fun v => if Lead (nes (turnE es)) (geE t) a v then 1 else 0) := by
      intro p hp
      obtain ⟨i, hi, hc, rfl⟩ := thr_mem.1 hp
      have m1 : (⟨es[i].u.toNat, es[i].v.toNat, -es[i].c⟩ : NE) ∈ nes (turnE es) := List.mem_map.2 ⟨⟨es[i].u, es[i].v, -es[i].c⟩, turnE_mem.2 ⟨es[i], List.getElem_mem hi, .inl rfl⟩, rfl⟩
      have m2 : (⟨es[i].v.toNat, es[i].u.toNat, -es[i].c⟩ : NE) ∈ nes (turnE es) := List.mem_map.2 ⟨⟨es[i].v, es[i].u, -es[i].c⟩, turnE_mem.2 ⟨es[i], List.getElem_mem hi, .inr rfl⟩, rfl⟩
      have hg1 : geE t (⟨es[i].u.toNat, es[i].v.toNat, -es[i].c⟩ : NE) = true := by simp only [geE, decide_eq_true_eq]; omega
      have hg2 : geE t (⟨es[i].v.toNat, es[i].u.toNat, -es[i].c⟩ : NE) = true := by simp only [geE, decide_eq_true_eq]; omega
      have hiff : Lead (nes (turnE es)) (geE t) a es[i].u.toNat ↔ Lead (nes (turnE es)) (geE t) a es[i].v.toNat :=
        ⟨fun h => Lead.step (⟨es[i].u.toNat, es[i].v.toNat, -es[i].c⟩ : NE) h m1 hg1, fun h => Lead.step (⟨es[i].v.toNat, es[i].u.toNat, -es[i].c⟩ : NE) h m2 hg2⟩
      simp only [hiff]
    have h1 := h _ hg
    simp only [if_pos (Lead.refl (es := nes (turnE es)) (is := geE t) (a := a))] at h1
    by_cases hb : Lead (nes (turnE es)) (geE t) a b
    · exact hb
    · rw [if_neg hb] at h1; cases h1
theorem neck_wide {n a b : Nat} {es : List Ed} (hes : Right n es) (ha : a < n) (hb : b < n) (hab : a ≠ b) {best x : Int} (h : NeckAns (JN es a b) es best x) : wide n (nes (turnE es)) a b = if x = 5 then -FAR else -best := by
  have hr := turn_right hes
  have hn := nes_right hr
  have hcost : ∀ e ∈ nes (turnE es), -10000 ≤ e.c ∧ e.c ≤ 10000 := fun e he => by
    obtain ⟨y, hy, rfl⟩ := nes_mem he
    have := hr y hy
    simp only; omega
  obtain ⟨lo, hi⟩ := wide_bounds (n := n) (es := nes (turnE es)) (fun e he => by have := hcost e he; unfold FAR; omega) a b
  -- what lies over -FAR is an edge's
  have key : ∀ t, -FAR < t → t ≤ wide n (nes (turnE es)) a b → ∃ w ∈ es, JN es a b w.c ∧ w.c ≤ -t := by
    intro t h1 h2
    have h3 := (wide_lead hn t h1 (by omega) a b ha hb).1 h2
    obtain ⟨e, he, h4, h5⟩ := lead_edge h3 hab
    obtain ⟨y, hy, rfl⟩ := nes_mem he
    obtain ⟨x, hx, hxy⟩ := turnE_mem.1 hy
    have hc : y.c = -x.c := by rcases hxy with rfl | rfl <;> rfl
    simp only at h4 h5
    have h6 := (lead_conn (n := n) y.c a b).1 h5
    rw [hc, Int.neg_neg] at h6
    exact ⟨x, hx, h6, by omega⟩
  rcases h with ⟨rfl, rfl, hno⟩ | ⟨rfl, ⟨w, hw, rfl, hJ⟩, hmin⟩
  · rw [if_pos rfl]
    rcases Int.lt_or_eq_of_le lo with h1 | h1
    · obtain ⟨w, hw, hJ, _⟩ := key _ h1 (Int.le_refl _)
      exact absurd hJ (hno w hw)
    · exact h1.symm
  · rw [if_neg (by omega)]
    have hwc := hes w hw
    have h1 : -w.c ≤ wide n (nes (turnE es)) a b := by
      refine (wide_lead hn (-w.c) (by unfold FAR; omega) (by unfold FAR; omega) a b ha hb).2 ((lead_conn (n := n) _ a b).2 ?_)
      rw [Int.neg_neg]; exact hJ
    obtain ⟨w', hw', hJ', hle⟩ := key _ (by unfold FAR; omega) (Int.le_refl (wide n (nes (turnE es)) a b))
    have := hmin w' hw' hJ'
    omega
end Go.Proofs.Ytgkiipmeigfjnaa

/-! The way back along least costs: the place before each place; costs that no edge undercuts. No program here. -/
namespace Go.Proofs.Ytgkiipmeigfjnaa
set_option linter.unusedVariables false

/-- the edges of one place, one after the other -/
theorem dij_scan {n : Nat} {E : List NE} {s : Nat → Int} {S : Nat → Bool} {m : Int} (hE : ∀ e ∈ E, e.u < n ∧ e.v < n ∧ 1 ≤ e.c) :
    ∀ (todo : List NE) (d : Nat → Int) (L : List P2), DInv n E s S m todo d L → (∀ e ∈ todo, e ∈ E ∧ S e.u = true ∧ d e.u = m) → ∃ d' L', DInv n E s S m [] d' L' ∧ L'.length ≤ L.length + todo.length
  | [], d, L, h, _ => ⟨d, L, h, by simp⟩
  | e :: r, d, L, h, ht => by
    obtain ⟨e1, e2, e3⟩ := ht e (List.mem_cons_self ..)
    obtain ⟨b1, b2, b3⟩ := hE e e1
    by_cases q : m + e.c < d e.v
    · have h2 := h.give e1 b2 e2 e3 (by omega) q (List.Perm.refl _)
      have hSv : S e.v = false := by
        cases hh : S e.v with
        | false => rfl
        | true => have := h.low _ hh; omega
      obtain ⟨d', L', h3, h4⟩ := dij_scan hE r _ _ h2 (fun x hx => by
        obtain ⟨f1, f2, f3⟩ := ht x (List.mem_cons_of_mem _ hx)
        refine ⟨f1, f2, ?_⟩
        rw [upz_other _ _ (by intro hc; rw [hc, hSv] at f2; cases f2)]
        exact f3)
      exact ⟨d', L', h3, by simp at h4; simp; omega⟩
    · have h2 := h.stay e3 q
      obtain ⟨d', L', h3, h4⟩ := dij_scan hE r _ _ h2 (fun x hx => ht x (List.mem_cons_of_mem _ hx))
      exact ⟨d', L', h3, by simp; omega⟩
/-- the least of what waits -/
theorem least_of : ∀ (L : List P2), L ≠ [] → ∃ p L', (p :: L').Perm L ∧ ∀ q ∈ L', p.a ≤ q.a
  | [], h => absurd rfl h
  | [x], _ => ⟨x, [], List.Perm.refl _, by simp⟩
  | x :: y :: r, _ => by
    obtain ⟨p, L', h1, h2⟩ := least_of (y :: r) (by simp)
    by_cases q : x.a ≤ p.a
    · refine ⟨x, y :: r, List.Perm.refl _, fun z hz => ?_⟩
      rcases List.mem_cons.1 (h1.mem_iff.2 hz) with rfl | hz
      · exact q
      · have := h2 z hz; omega
    · refine ⟨p, x :: L', (List.Perm.swap ..).trans (h1.cons x), fun z hz => ?_⟩
      rcases List.mem_cons.1 hz with rfl | hz
      · omega
      · exact h2 z hz
theorem dij_run {n : Nat} {E : List NE} {s : Nat → Int} (hE : ∀ e ∈ E, e.u < n ∧ e.v < n ∧ 1 ≤ e.c) :
    ∀ (M : Nat) (S : Nat → Bool) (m : Int) (d : Nat → Int) (L : List P2), DInv n E s S m [] d L → L.length + rest E S ≤ M → ∃ S' m' d', DInv n E s S' m' [] d' [] := by
  intro M
  induction M with
  | zero =>
    intro S m d L h hM
    have : L = [] := List.eq_nil_of_length_eq_zero (by omega)
    subst this
    exact ⟨S, m, d, h⟩
  | succ M ih =>
    intro S m d L h hM
    by_cases hL : L = []
    · subst hL; exact ⟨S, m, d, h⟩
    obtain ⟨p, L', h1, h2⟩ := least_of L hL
    have hlen : L.length = L'.length + 1 := by simpa using h1.length_eq.symm
    obtain ⟨p1, p2, p3, _⟩ := h.ent p (h1.mem_iff.1 (List.mem_cons_self ..))
    obtain ⟨v, hv⟩ := Int.eq_ofNat_of_zero_le p1
    by_cases q : d p.b.toNat < p.a
    · exact ih S m d L' (h.drop h1 q) (by omega)
    · have hbt : p.b.toNat = v := by rw [hv]; simp
      rw [hbt] at q
      obtain ⟨k1, k2, k3, k4⟩ := h.look (todo := E.filter (fun e => decide (e.u = v))) h1 hv (by omega) h2 (fun e he hu => List.mem_filter.2 ⟨he, by simpa using hu⟩)
      obtain ⟨d', L2, h3, h4⟩ := dij_scan hE _ d L' k4 (fun e he => by
        obtain ⟨f1, f2⟩ := List.mem_filter.1 he
        have f3 : e.u = v := by simpa using f2
        exact ⟨f1, by rw [f3, upz_same], by rw [f3]; exact k1.symm⟩)
      refine ih _ _ _ _ h3 ?_
      have hr := rest_mark (E := E) k2
      rw [← List.countP_eq_length_filter] at h4
      omega
/-- of a net of costs above 0: the rounds' costs are undercut by no edge -/
theorem spread_feas {n : Nat} {E : List NE} {v : Nat} (hE : ∀ e ∈ E, e.u < n ∧ e.v < n ∧ 1 ≤ e.c) (hv : v < n) :
    (∀ e ∈ E, spread E (stF v) (n - 1) e.u < FAR → spread E (stF v) (n - 1) e.v ≤ spread E (stF v) (n - 1) e.u + e.c) ∧ ∀ u, u < n → 0 ≤ spread E (stF v) (n - 1) u := by
  have hst := DInv.start (n := n) (E := E) (s := stF v) v hv (by simp [stF]) (fun u hu => by simp [stF, hu])
  obtain ⟨S, m, d, h⟩ := dij_run hE _ _ _ _ _ hst (Nat.le_refl _)
  have hd := fun u hu => h.done (by omega) (fun e he => ⟨(hE e he).1, (hE e he).2.1⟩) (stF_far v) u hu
  refine ⟨fun e he hlt => ?_, fun u hu => by rw [hd u hu]; exact h.pos u⟩
  obtain ⟨b1, b2, _⟩ := hE e he
  rw [hd _ b1] at hlt ⊢
  rw [hd _ b2]
  refine h.edge e he ?_ (by simp)
  cases hh : S e.u with
  | true => rfl
  | false => have := h.wait e.u b1 hlt hh; cases this
/-- the place before v on a least way: the least that there is -/
def prevF (n : Nat) (E : List NE) (d : Nat → Int) (v : Nat) : Nat := E.foldl (fun u e => if e.v = v ∧ d e.u + e.c = d v then min u e.u else u) n
theorem prev_fold {d : Nat → Int} {v : Nat} : ∀ (E : List NE) (n : Nat), E.foldl (fun u e => if e.v = v ∧ d e.u + e.c = d v then min u e.u else u) n ≤ n ∧
    (∀ e ∈ E, e.v = v → d e.u + e.c = d v → E.foldl (fun u e => if e.v = v ∧ d e.u + e.c = d v then min u e.u else u) n ≤ e.u) ∧
    (E.foldl (fun u e => if e.v = v ∧ d e.u + e.c = d v then min u e.u else u) n = n ∨ ∃ e ∈ E, e.v = v ∧ d e.u + e.c = d v ∧ e.u = E.foldl (fun u e => if e.v = v ∧ d e.u + e.c = d v then min u e.u else u) n)
  | [], n => ⟨Nat.le_refl _, by simp, .inl rfl⟩
  | x :: r, n => by
    simp only [List.foldl_cons]
    by_cases q : x.v = v ∧ d x.u + x.c = d v
    · rw [if_pos q]
      obtain ⟨h1, h2, h3⟩ := prev_fold (d := d) (v := v) r (min n x.u)
      refine ⟨by omega, fun e he h4 h5 => ?_, ?_⟩
      · rcases List.mem_cons.1 he with rfl | he
        · omega
        · exact h2 e he h4 h5
      · rcases h3 with h3 | ⟨e, he, h4, h5, h6⟩
        · rcases Nat.le_total n x.u with hh | hh
          · left; rw [h3]; omega
          · right; exact ⟨x, List.mem_cons_self .., q.1, q.2, by rw [h3]; omega⟩
        · right; exact ⟨e, List.mem_cons_of_mem _ he, h4, h5, h6⟩
    · rw [if_neg q]
      obtain ⟨h1, h2, h3⟩ := prev_fold (d := d) (v := v) r n
      refine ⟨h1, fun e he h4 h5 => ?_, ?_⟩
      · rcases List.mem_cons.1 he with rfl | he
        · exact absurd ⟨h4, h5⟩ q
        · exact h2 e he h4 h5
      · rcases h3 with h3 | ⟨e, he, h4⟩
        · exact .inl h3
        · exact .inr ⟨e, List.mem_cons_of_mem _ he, h4⟩
/-- there is a place before, nearer -/
theorem prev_is {n : Nat} {E : List NE} {f v : Nat} (hE : ∀ e ∈ E, e.u < n ∧ e.v < n ∧ 1 ≤ e.c) (hf : f < n) (hv : v < n) (hlt : spread E (stF f) (n - 1) v < FAR) (hne : v ≠ f) :
    prevF n E (spread E (stF f) (n - 1)) v < n ∧ spread E (stF f) (n - 1) (prevF n E (spread E (stF f) (n - 1)) v) < spread E (stF f) (n - 1) v ∧
    ∃ e ∈ E, e.v = v ∧ e.u = prevF n E (spread E (stF f) (n - 1)) v ∧ spread E (stF f) (n - 1) e.u + e.c = spread E (stF f) (n - 1) v := by
  obtain ⟨hfe, hpos⟩ := spread_feas hE hf
  have hatt := spread_att E (stF f) (stF_far f) (n - 1)
  obtain ⟨h1, h2, h3⟩ := prev_fold (d := spread E (stF f) (n - 1)) (v := v) E n
  have hex : ∃ e ∈ E, e.v = v ∧ spread E (stF f) (n - 1) e.u + e.c = spread E (stF f) (n - 1) v := by
    have hat := (hatt v).2 hlt
    generalize hx : spread E (stF f) (n - 1) v = x at hat
    cases hat with
    | base v h =>
      unfold stF at h
      rw [if_neg hne] at h
      omega
    | step e x he h4 h5 h6 =>
      refine ⟨e, he, rfl, ?_⟩
      have h7 := at_ge (f := spread E (stF f) (n - 1)) hfe (fun v => (hatt v).1) h4
      have h8 := hfe e he (by omega)
      omega
  obtain ⟨e0, g1, g2, g3⟩ := hex
  have h4 := h2 e0 g1 g2 g3
  have h5 := (hE e0 g1).1
  rcases h3 with h3 | ⟨e, he, h6, h7, h8⟩
  · omega
  · have hp : prevF n E (spread E (stF f) (n - 1)) v = e.u := h8.symm
    have := (hE e he).2.2
    rw [hp]
    exact ⟨(hE e he).1, by omega, e, he, h6, rfl, h7⟩
/-- step by step back -/
def backF (n : Nat) (E : List NE) (d : Nat → Int) (t : Nat) : Nat → Nat | 0 => t | i + 1 => prevF n E d (backF n E d t i)
theorem back_ends {n : Nat} {E : List NE} {f t : Nat} (hE : ∀ e ∈ E, e.u < n ∧ e.v < n ∧ 1 ≤ e.c) (hf : f < n) (ht : t < n) (hlt : spread E (stF f) (n - 1) t < FAR) :
    ∃ K : Nat, backF n E (spread E (stF f) (n - 1)) t K = f ∧ (∀ j, j ≤ K → backF n E (spread E (stF f) (n - 1)) t j < n ∧ spread E (stF f) (n - 1) (backF n E (spread E (stF f) (n - 1)) t j) < FAR) ∧ (∀ j, j < K → backF n E (spread E (stF f) (n - 1)) t j ≠ f) ∧ (K : Int) ≤ spread E (stF f) (n - 1) t := by
  obtain ⟨_, hpos⟩ := spread_feas hE hf
  have key : ∀ (M i : Nat), (∀ j, j ≤ i → backF n E (spread E (stF f) (n - 1)) t j < n ∧ spread E (stF f) (n - 1) (backF n E (spread E (stF f) (n - 1)) t j) < FAR) → (∀ j, j < i → backF n E (spread E (stF f) (n - 1)) t j ≠ f) →
      spread E (stF f) (n - 1) (backF n E (spread E (stF f) (n - 1)) t i) ≤ M → spread E (stF f) (n - 1) (backF n E (spread E (stF f) (n - 1)) t i) + i ≤ spread E (stF f) (n - 1) t →
      ∃ K : Nat, backF n E (spread E (stF f) (n - 1)) t K = f ∧ (∀ j, j ≤ K → backF n E (spread E (stF f) (n - 1)) t j < n ∧ spread E (stF f) (n - 1) (backF n E (spread E (stF f) (n - 1)) t j) < FAR) ∧ (∀ j, j < K → backF n E (spread E (stF f) (n - 1)) t j ≠ f) ∧ (K : Int) ≤ spread E (stF f) (n - 1) t := by
    intro M
    induction M with
    | zero =>
      intro i h1 h2 h3 h4
      by_cases q : backF n E (spread E (stF f) (n - 1)) t i = f
      · have := hpos _ (h1 i (Nat.le_refl _)).1
        exact ⟨i, q, h1, h2, by omega⟩
      · obtain ⟨p1, p2, _⟩ := prev_is hE hf (h1 i (Nat.le_refl _)).1 (h1 i (Nat.le_refl _)).2 q
        have := hpos _ p1
        omega
    | succ M ih =>
      intro i h1 h2 h3 h4
      by_cases q : backF n E (spread E (stF f) (n - 1)) t i = f
      · have := hpos _ (h1 i (Nat.le_refl _)).1
        exact ⟨i, q, h1, h2, by omega⟩
      · obtain ⟨p1, p2, _⟩ := prev_is hE hf (h1 i (Nat.le_refl _)).1 (h1 i (Nat.le_refl _)).2 q
        have e : backF n E (spread E (stF f) (n - 1)) t (i + 1) = prevF n E (spread E (stF f) (n - 1)) (backF n E (spread E (stF f) (n - 1)) t i) := rfl
        refine ih (i + 1) (fun j hj => ?_) (fun j hj => ?_) (by rw [e]; omega) (by rw [e]; omega)
        · by_cases hji : j ≤ i
          · exact h1 j hji
          · obtain rfl : j = i + 1 := by omega
            rw [e]
            exact ⟨p1, by have := (h1 i (Nat.le_refl _)).2; omega⟩
        · by_cases hji : j < i
          · exact h2 j hji
          · obtain rfl : j = i := by omega
            exact q
  have h0 := hpos t ht
  exact key (spread E (stF f) (n - 1) t).toNat 0 (fun j hj => by obtain rfl : j = 0 := by omega
                                                                 exact ⟨ht, hlt⟩) (fun j hj => by omega) (by show spread E (stF f) (n - 1) t ≤ _; omega) (by show spread E (stF f) (n - 1) t + ((0 : Nat) : Int) ≤ _; omega)
end Go.Proofs.Ytgkiipmeigfjnaa

/-! What dijk.Way returns. Conditions: that the slices read. -/
namespace Go.Proofs.Ytgkiipmeigfjnaa
open Go.RowKit
set_option linter.unusedSimpArgs false
set_option linter.unusedVariables false
/-- a slice of one number, just built -/
theorem own_one (w : World) (base : Nat) (e : TypeId) (x : Int) (hb : base ≤ w.heap.size) : Own encI 1 e (w.alloc (.cells #[.int .i64 x] e)) base (.slice (some ⟨w.heap.size, 0, none⟩) 1 1) [x] :=
  ⟨rfl, .inr ⟨w.heap.size, 1, #[.int .i64 x], rfl, hb, heap_alloc_new w _, Nat.le_refl _, by unfold maxLen; decide, rfl, rfl⟩⟩
/-- a walk, its cost and an error handed back -/
def WayBack (xs : List Int) (m : Nat) (cost err : Int) (w : World) (e : Ending) (w' : World) : Prop := ∃ a c, e = .returned (.tuple #[.agg #[.slice a m c, .int .i64 cost], .int .i64 err]) ∧ Row encI 1 w' w'.heap.size a xs ∧ Below w.heap.size w w'
theorem pos_edges {n : Nat} {es : List Ed} (h : Right n es) (hp : ∀ e ∈ es, 1 ≤ e.c) : ∀ e ∈ nes es, e.u < n ∧ e.v < n ∧ 1 ≤ e.c := by
  intro e he
  have h1 := nes_right h e he
  obtain ⟨x, hx, rfl⟩ := nes_mem he
  exact ⟨h1.1, h1.2, hp x hx⟩
set_option maxRecDepth 100000 in
set_option maxHeartbeats 2000000 in
theorem way_bad (N : Int) (a : Option Addr) (cap : Nat) (es : List Ed) (x y : Int) (w : World) (B : Nat) (hB : B ≤ w.heap.size) (hE : Row encE 3 w B a es) (hl : es.length ≤ 9223372036854775807) (h0 : lookErr N es [x, y] ≠ 0) :
    Calls Try.prog 69 #[.agg #[.int .i64 N, .slice a es.length cap], .int .i64 x, .int .i64 y] w (WayBack [] 0 0 (lookErr N es [x, y]) w) := by
  have q0 : (lookErr N es [x, y] != 0) = true := by simp [h0]
  have hL := hide (fun a1 c1 w B hB hE hP => look_any N a cap es a1 c1 2 [x, y] rfl w B hB hE hP hl (by omega))
  replace hE := hide hE
  clear h0
  go_enter Try.func69, Try.ntmps69
  go_wp2_with fail
  refine (hL.out _ _ _ (w.heap.size + 1 + 1 + 1) (by simp) ((hE.out.below ((by repeat (first | with_reducible exact Below.refl _ _ | with_reducible assumption | with_reducible refine up_drewN ?_ | with_reducible refine up_drew ?_ | (with_reducible refine up_alloc ?_ ?_; rotate_left; (first | omega | (simp <;> omega) | simp)) | (with_reducible refine up_set ?_ ?_; rotate_left; (first | omega | (simp <;> omega) | simp)) | (with_reducible refine Below.trans ?_ (Below.mono (by with_reducible assumption) ?_); rotate_left; (first | omega | (simp <;> omega) | simp)))) : Below w.heap.size w _) hB).mono (by omega)) ((row2 (by simp [go_sem]) (by simp [go_sem])).mono (by simp))).mono ?_
  rintro e w1 ⟨rfl, hb1⟩
  obtain ⟨hc1, hf1⟩ := bcell hb1
  have hz1 : w.heap.size + 1 + 1 < w1.heap.size := by have := hb1.size; simp at this; omega
  have hz0 : w.heap.size + 1 < w1.heap.size := by omega
  go_wp2
  exact bodyPost_ret (v := .tuple #[.agg #[.slice none 0 0, .int .i64 0], .int .i64 (lookErr N es [x, y])]) (by simp [results, Try.results69, go_sem, hc1, hz1, hz0, hf1]) rfl ⟨none, 0, rfl, Row.nil _ _ _ _ _, (by repeat (first | with_reducible exact Below.refl _ _ | with_reducible assumption | with_reducible refine up_drewN ?_ | with_reducible refine up_drew ?_ | (with_reducible refine up_alloc ?_ ?_; rotate_left; (first | omega | (simp <;> omega) | simp)) | (with_reducible refine up_set ?_ ?_; rotate_left; (first | omega | (simp <;> omega) | simp)) | (with_reducible refine Below.trans ?_ (Below.mono (by with_reducible assumption) ?_); rotate_left; (first | omega | (simp <;> omega) | simp))))⟩
/-- what holds behind dijk.Run in Way -/
structure WyI (w : World) (n : Nat) (a : Option Addr) (m cap : Nat) (D : Nat) (d : Nat → Int) (wr : World) : Prop where
  b0 : wr.cell? ⟨w.heap.size, 0, none⟩ = some (.int .i64 (n : Int))
  b1 : wr.cell? ⟨w.heap.size, 1, none⟩ = some (.slice a m cap)
  r0 : wr.cell? ⟨w.heap.size + 1, 0, none⟩ = some (.slice none 0 0)
  r1 : wr.cell? ⟨w.heap.size + 1, 1, none⟩ = some (.int .i64 0)
  f0 : wr.frozen? ⟨w.heap.size + 1, 0, none⟩ = false
  f1 : wr.frozen? ⟨w.heap.size + 1, 1, none⟩ = false
  dist : ∀ u, u < n → wr.cell? ⟨D, u, none⟩ = some (.int .i64 (d u))
  dlt : D < wr.heap.size
  bel : Below w.heap.size w wr
theorem WyI.stays {w wr w' : World} {n m cap D : Nat} {a : Option Addr} {d : Nat → Int} (h : WyI w n a m cap D d wr) (b : Below wr.heap.size wr w') : WyI w n a m cap D d w' :=
  ⟨cu_below b h.b0 (cell_lt h.b0), cu_below b h.b1 (cell_lt h.b1), cu_below b h.r0 (cell_lt h.r0), cu_below b h.r1 (cell_lt h.r1), fu_below b h.f0 (cell_lt h.r0), fu_below b h.f1 (cell_lt h.r1), fun u hu => cu_below b (h.dist u hu) h.dlt, Nat.lt_of_lt_of_le h.dlt b.size, h.bel.trans (b.mono h.bel.size)⟩
theorem WyI.kept {w wr w' : World} {n m cap D B : Nat} {a : Option Addr} {d : Nat → Int} (h : WyI w n a m cap D d wr) (b : Below B wr w') (hD : D < B) (hw : w.heap.size + 1 < B) : WyI w n a m cap D d w' :=
  ⟨cu_below b h.b0 (by simp; omega), cu_below b h.b1 (by simp; omega), cu_below b h.r0 (by simp; omega), cu_below b h.r1 (by simp; omega), fu_below b h.f0 (by simp; omega), fu_below b h.f1 (by simp; omega), fun u hu => cu_below b (h.dist u hu) hD, Nat.lt_of_lt_of_le h.dlt b.size, h.bel.trans (b.mono (by omega))⟩
set_option maxRecDepth 100000 in
set_option maxHeartbeats 2000000 in
theorem way_none (n : Nat) (a : Option Addr) (cap : Nat) (es : List Ed) (f t : Nat) (w : World) (B : Nat) (hB : B ≤ w.heap.size) (hE : Row encE 3 w B a es) (h0 : lookErr (n : Int) es [(f : Int), (t : Int)] = 0) (hF : distF n es f t = FAR) :
    Calls Try.prog 69 #[.agg #[.int .i64 (n : Int), .slice a es.length cap], .int .i64 (f : Int), .int .i64 (t : Int)] w (WayBack [] 0 0 5 w) := by
  obtain ⟨g1, g2⟩ := look_ok h0
  obtain ⟨g3, g4⟩ := posErr_ok g1
  obtain ⟨n1, n2, n3, n4⟩ := netErr_ok g3
  have hf : f < n := by have := g2 f (by simp); omega
  have ht : t < n := by have := g2 t (by simp); omega
  have hL := hide (fun a1 c1 w B hB hE hP => by have := look_any (n : Int) a cap es a1 c1 2 [(f : Int), (t : Int)] rfl w B hB hE hP (by omega) (by omega); rw [h0] at this; exact this)
  replace g4 := hide g4
  replace n4 := hide n4
  replace hE := hide hE
  clear h0 g1 g2 g3
  go_enter Try.func69, Try.ntmps69
  go_wp2_with fail
  refine (hL.out _ _ _ (w.heap.size + 1 + 1 + 1) (by simp) ((hE.out.below ((by repeat (first | with_reducible exact Below.refl _ _ | with_reducible assumption | with_reducible refine up_drewN ?_ | with_reducible refine up_drew ?_ | (with_reducible refine up_alloc ?_ ?_; rotate_left; (first | omega | (simp <;> omega) | simp)) | (with_reducible refine up_set ?_ ?_; rotate_left; (first | omega | (simp <;> omega) | simp)) | (with_reducible refine Below.trans ?_ (Below.mono (by with_reducible assumption) ?_); rotate_left; (first | omega | (simp <;> omega) | simp)))) : Below w.heap.size w _) hB).mono (by omega)) ((row2 (by simp [go_sem]) (by simp [go_sem])).mono (by simp))).mono ?_
  rintro e w1 ⟨rfl, hb1⟩
  obtain ⟨hc1, hf1⟩ := bcell hb1
  have hz1 : w.heap.size + 1 + 1 < w1.heap.size := by have := hb1.size; simp at this; omega
  have hz0 : w.heap.size + 1 < w1.heap.size := by omega
  have hzz : w.heap.size < w1.heap.size := by omega
  go_wp2_with fail
  refine (run_any n a cap es f _ B (by omega) (hE.out.below ((by repeat (first | with_reducible exact Below.refl _ _ | with_reducible assumption | with_reducible refine up_drewN ?_ | with_reducible refine up_drew ?_ | (with_reducible refine up_alloc ?_ ?_; rotate_left; (first | omega | (simp <;> omega) | simp)) | (with_reducible refine up_set ?_ ?_; rotate_left; (first | omega | (simp <;> omega) | simp)) | (with_reducible refine Below.trans ?_ (Below.mono (by with_reducible assumption) ?_); rotate_left; (first | omega | (simp <;> omega) | simp)))) : Below w.heap.size w _) hB) (by omega) (by omega) n3 n4.out g4.out hf).mono ?_
  rintro e w2 ⟨av, cv, rfl, own, hb2⟩
  obtain ⟨D, rfl, hD1, hD2⟩ := own.blockI (by omega)
  have c0 := own.atI t ht
  rw [hF] at c0
  have r0 : w2.cell? ⟨w.heap.size + 1, 0, none⟩ = some (.slice none 0 0) := cu_below hb2 (by simp [hc1, go_sem, hz0]) hz0
  have r1 : w2.cell? ⟨w.heap.size + 1, 1, none⟩ = some (.int .i64 0) := cu_below hb2 (by simp [hc1, go_sem, hz0]) hz0
  have f0 : w2.frozen? ⟨w.heap.size + 1, 0, none⟩ = false := fu_below hb2 (by simp [hf1, go_sem, hz0]) hz0
  have f1 : w2.frozen? ⟨w.heap.size + 1, 1, none⟩ = false := fu_below hb2 (by simp [hf1, go_sem, hz0]) hz0
  have hz2 : w.heap.size + 1 < w2.heap.size := cell_lt r0
  have hbf := hide (show Below w.heap.size w w2 from (by repeat (first | with_reducible exact Below.refl _ _ | with_reducible assumption | with_reducible refine up_drewN ?_ | with_reducible refine up_drew ?_ | (with_reducible refine up_alloc ?_ ?_; rotate_left; (first | omega | (simp <;> omega) | simp)) | (with_reducible refine up_set ?_ ?_; rotate_left; (first | omega | (simp <;> omega) | simp)) | (with_reducible refine Below.trans ?_ (Below.mono (by with_reducible assumption) ?_); rotate_left; (first | omega | (simp <;> omega) | simp)))))
  have it : (0 : Int) ≤ (t : Int) ∧ (t : Int) < (n : Int) := by omega
  unfold FAR at c0
  replace hF := hide hF
  clear own hb1 hb2 hc1 hf1
  go_wp2
  exact bodyPost_ret (v := .tuple #[.agg #[.slice none 0 0, .int .i64 0], .int .i64 5]) (by simp [results, Try.results69, go_sem, r0, r1, hz2, f0, f1]) rfl ⟨none, 0, rfl, Row.nil _ _ _ _ _, (hbf.out.setCell (by simp) _).setCell (by simp) _⟩
end Go.Proofs.Ytgkiipmeigfjnaa

/-! What dijk.Way returns where there is a walk. Conditions: that the slices read. -/
namespace Go.Proofs.Ytgkiipmeigfjnaa
open Go.RowKit
set_option linter.unusedSimpArgs false
set_option linter.unusedVariables false
/-- the place before, over the first edges -/
def pvK (n : Nat) (es : List Ed) (d : Nat → Int) (v k : Nat) : Nat := prevF n (nes (es.take k)) d v
theorem pvK_zero (n : Nat) (es : List Ed) (d : Nat → Int) (v : Nat) : pvK n es d v 0 = n := by simp [pvK, prevF, nes]
theorem pvK_all (n : Nat) (es : List Ed) (d : Nat → Int) (v : Nat) : pvK n es d v es.length = prevF n (nes es) d v := by simp [pvK]
theorem pvK_succ {n : Nat} {es : List Ed} {d : Nat → Int} {v k x y : Nat} {c : Int} (h : nes (es.take (k + 1)) = nes (es.take k) ++ [⟨x, y, c⟩]) : pvK n es d v (k + 1) = if y = v ∧ d x + c = d v then min (pvK n es d v k) x else pvK n es d v k := by
  unfold pvK prevF
  rw [h, List.foldl_append]
  rfl
/-- the walk: places back from the end, turned round -/
def pathL (b : Nat → Nat) (K : Nat) : List Int := (List.range (K + 1)).map fun i => ((b (K - i) : Nat) : Int)
theorem pathL_len (b : Nat → Nat) (K : Nat) : (pathL b K).length = K + 1 := by simp [pathL]
theorem pathL_take (b : Nat → Nat) (K k : Nat) (hk : k ≤ K) : (pathL b K).take (k + 1) = (pathL b K).take k ++ [((b (K - k) : Nat) : Int)] := by
  have hl : k < (pathL b K).length := by rw [pathL_len]; omega
  rw [List.take_succ_eq_append_getElem hl]
  simp [pathL]
/-- what holds while the walk is turned round: X the way's place, wo the world ahead of it -/
structure WzI (wo : World) (cost : Int) (v : Value) (xs : List Int) (wr : World) : Prop where
  o0 : wr.cell? ⟨wo.heap.size, 0, none⟩ = some v
  o1 : wr.cell? ⟨wo.heap.size, 1, none⟩ = some (.int .i64 cost)
  fo : wr.frozen? ⟨wo.heap.size, 0, none⟩ = false
  own : Own encI 1 3 wr (wo.heap.size + 1) v xs
  bel : Below wo.heap.size wo wr
section
variable {wo wr w' : World} {cost : Int} {v : Value} {xs : List Int}
theorem WzI.lt (h : WzI wo cost v xs wr) : wo.heap.size < wr.heap.size := cell_lt h.o0
theorem WzI.stays (h : WzI wo cost v xs wr) (b : Below wr.heap.size wr w') : WzI wo cost v xs w' :=
  ⟨cu_below b h.o0 (cell_lt h.o0), cu_below b h.o1 (cell_lt h.o1), fu_below b h.fo (cell_lt h.o0), h.own.stays b, h.bel.trans (b.mono h.bel.size)⟩
theorem WzI.ap (h : WzI wo cost v xs wr) : v.ownBlock ≠ some wo.heap.size := fun e => by
  have := (h.own.block_lt _ e).1
  omega
theorem WzI.grew (h : WzI wo cost v xs wr) {v' : Value} {xs' : List Int} (own' : Own encI 1 3 w' (wo.heap.size + 1) v' xs') (hg : wr.grownBy w' v.ownBlock) : WzI wo cost v' xs' (w'.setCell ⟨wo.heap.size, 0, none⟩ v') := by
  have hl := h.lt
  have hap := h.ap
  refine ⟨World.cell?_setCell_same _ _ _ (hg.cell h.o0 (fun e => hap e.symm)), cu_set_off (hg.cell h.o1 (fun e => hap e.symm)) (by omega), fu_set ((hg.frozen_far ⟨wo.heap.size, 0, none⟩ (by simp; omega) (fun e => hap e.symm)).trans h.fo), own'.elsewhere (fun e => by have := (own'.block_lt wo.heap.size e).1; omega) _, ?_⟩
  refine Below.setCell (h.bel.grown hg h.bel.size (fun k hk => by have := (h.own.block_lt k hk).1; omega)) ?_ _
  simp
end
set_option maxRecDepth 100000 in
set_option maxHeartbeats 4000000 in
theorem way_ok (n : Nat) (a : Option Addr) (cap : Nat) (es : List Ed) (f t : Nat) (w : World) (B : Nat) (hB : B ≤ w.heap.size) (hE : Row encE 3 w B a es) (h0 : lookErr (n : Int) es [(f : Int), (t : Int)] = 0) (K : Nat) (hK0 : backF n (nes es) (distF n es f) t K = f)
    (hK1 : ∀ j, j ≤ K → backF n (nes es) (distF n es f) t j < n ∧ distF n es f (backF n (nes es) (distF n es f) t j) < FAR) (hK2 : ∀ j, j < K → backF n (nes es) (distF n es f) t j ≠ f) (hK3 : (K : Int) ≤ distF n es f t) (hd0 : ∀ u, u < n → 0 ≤ distF n es f u ∧ distF n es f u ≤ FAR) :
    Calls Try.prog 69 #[.agg #[.int .i64 (n : Int), .slice a es.length cap], .int .i64 (f : Int), .int .i64 (t : Int)] w (WayBack (pathL (backF n (nes es) (distF n es f) t) K) (K + 1) (distF n es f t) 0 w) := by
  obtain ⟨g1, g2⟩ := look_ok h0
  obtain ⟨g3, g4⟩ := posErr_ok g1
  obtain ⟨n1, n2, n3, n4⟩ := netErr_ok g3
  have hf : f < n := by have := g2 f (by simp); omega
  have ht : t < n := by have := g2 t (by simp); omega
  have hL := hide (fun a1 c1 w B hB hE hP => by have := look_any (n : Int) a cap es a1 c1 2 [(f : Int), (t : Int)] rfl w B hB hE hP (by omega) (by omega); rw [h0] at this; exact this)
  have hR := hide (fun w B hB hE => run_any n a cap es f w B hB hE (by omega) (by omega) n3 n4 g4 hf)
  have hltF : distF n es f t < 1099511627776 := (hK1 0 (Nat.zero_le _)).2
  have hKb : K ≤ 1099511627776 := by omega
  replace g4 := hide g4
  have hes := hide (show Right n es from n4)
  replace hE := hide hE
  clear h0 g1 g2 g3 n4
  obtain ⟨d, hd⟩ : ∃ d, d = distF n es f := ⟨_, rfl⟩
  rw [← hd] at hK0 hK1 hK2 hK3 hd0 hltF hR ⊢
  obtain ⟨b, hb⟩ : ∃ b, b = backF n (nes es) d t := ⟨_, rfl⟩
  rw [← hb] at hK0 hK1 hK2 ⊢
  have hb0 : b 0 = t := by rw [hb]; rfl
  have hbs := hide (fun i => show b (i + 1) = prevF n (nes es) d (b i) by rw [hb]; rfl)
  replace hb := hide hb
  replace hd := hide hd
  replace hK0 := hide hK0
  replace hK1 := hide hK1
  replace hK2 := hide hK2
  replace hd0 := hide hd0
  replace hb0 := hide hb0
  go_enter Try.func69, Try.ntmps69
  go_wp2_with fail
  refine (hL.out _ _ _ (w.heap.size + 1 + 1 + 1) (by simp) ((hE.out.below ((by repeat (first | with_reducible exact Below.refl _ _ | with_reducible assumption | with_reducible refine up_drewN ?_ | with_reducible refine up_drew ?_ | (with_reducible refine up_alloc ?_ ?_; rotate_left; (first | omega | (simp <;> omega) | simp)) | (with_reducible refine up_set ?_ ?_; rotate_left; (first | omega | (simp <;> omega) | simp)) | (with_reducible refine Below.trans ?_ (Below.mono (by with_reducible assumption) ?_); rotate_left; (first | omega | (simp <;> omega) | simp)))) : Below w.heap.size w _) hB).mono (by omega)) ((row2 (by simp [go_sem]) (by simp [go_sem])).mono (by simp))).mono ?_
  rintro e w1 ⟨rfl, hb1⟩
  obtain ⟨hc1, hf1⟩ := bcell hb1
  have hz1 : w.heap.size + 1 + 1 < w1.heap.size := by have := hb1.size; simp at this; omega
  have hz0 : w.heap.size + 1 < w1.heap.size := by omega
  have hzz : w.heap.size < w1.heap.size := by omega
  go_wp2_with fail
  refine (hR.out _ B (by omega) (hE.out.below ((by repeat (first | with_reducible exact Below.refl _ _ | with_reducible assumption | with_reducible refine up_drewN ?_ | with_reducible refine up_drew ?_ | (with_reducible refine up_alloc ?_ ?_; rotate_left; (first | omega | (simp <;> omega) | simp)) | (with_reducible refine up_set ?_ ?_; rotate_left; (first | omega | (simp <;> omega) | simp)) | (with_reducible refine Below.trans ?_ (Below.mono (by with_reducible assumption) ?_); rotate_left; (first | omega | (simp <;> omega) | simp)))) : Below w.heap.size w _) hB)).mono ?_
  rintro e w2 ⟨av, cv, rfl, own, hb2⟩
  obtain ⟨D, rfl, hD1, hD2⟩ := own.blockI (by omega)
  have hI : WyI w n a es.length cap D d w2 := ⟨cu_below hb2 (by simp [hc1, go_sem, hzz]) hzz, cu_below hb2 (by simp [hc1, go_sem, hzz]) hzz, cu_below hb2 (by simp [hc1, go_sem, hz0]) hz0, cu_below hb2 (by simp [hc1, go_sem, hz0]) hz0, fu_below hb2 (by simp [hf1, go_sem, hz0]) hz0, fu_below hb2 (by simp [hf1, go_sem, hz0]) hz0, fun u hu => own.atI u hu, hD2, (by repeat (first | with_reducible exact Below.refl _ _ | with_reducible assumption | with_reducible refine up_drewN ?_ | with_reducible refine up_drew ?_ | (with_reducible refine up_alloc ?_ ?_; rotate_left; (first | omega | (simp <;> omega) | simp)) | (with_reducible refine up_set ?_ ?_; rotate_left; (first | omega | (simp <;> omega) | simp)) | (with_reducible refine Below.trans ?_ (Below.mono (by with_reducible assumption) ?_); rotate_left; (first | omega | (simp <;> omega) | simp))))⟩
  replace hI := hide hI
  have c0 := own.atI t ht
  have it : (0 : Int) ≤ (t : Int) ∧ (t : Int) < (n : Int) := by omega
  obtain ⟨dt, hdt⟩ : ∃ x, x = d t := ⟨_, rfl⟩
  rw [← hdt] at c0 hltF hK3
  have q0 : (dt == 1099511627776) = false := by simp; omega
  replace hdt := hide hdt
  clear hb1 hc1 hf1 hb2 own hL hR
  go_wp2
  have own1 := hide (own_one w2 w2.heap.size 3 (t : Int) (Nat.le_refl _))
  have hI1 := hide (hI.out.stays ((Below.refl _ _).alloc (Nat.le_refl _) (.cells #[.int .i64 (t : Int)] 3)))
  have hz2 := hI.out.dlt
  have hzw2 : w.heap.size + 1 < w2.heap.size := cell_lt hI.out.r0
  generalize (w2.alloc (.cells #[.int .i64 (t : Int)] 3)) = w3 at own1 hI1 ⊢
  clear c0
  go_loopg [10, 11] K (fun gk s10 s11 wr => ∃ (i g c : Nat), i + gk = K ∧ s11 = .int .i64 ((b i : Nat) : Int) ∧ s10 = .slice (some ⟨g, 0, none⟩) (i + 1) c ∧ Hid (Own encI 1 3 wr w2.heap.size (.slice (some ⟨g, 0, none⟩) (i + 1) c) (LI (i + 1) (fun j => ((b j : Nat) : Int)))) ∧ Hid (WyI w n a es.length cap D d wr))
  case atStart => exact ⟨0, _, _, by omega, by rw [hb0.out], rfl, by
    have e1 : LI (0 + 1) (fun j => ((b j : Nat) : Int)) = [(t : Int)] := by simp [LI, hb0.out]
    rw [e1]; exact own1, hI1⟩
  case round =>
    obtain ⟨i, g, c, hik, rfl, rfl, own, hI2⟩ := hrel
    clear own1 hI1
    have kb0 := hI2.out.b0
    have kb1 := hI2.out.b1
    have hzr := hI2.out.dlt
    have hbel := hI2.out.bel
    have hw0 : w.heap.size < wr.heap.size := cell_lt kb0
    obtain ⟨v, hv⟩ : ∃ v, v = b i := ⟨_, rfl⟩
    have hvn := hK1.out i (by omega)
    rw [← hv] at hvn ⊢
    by_cases hvf : v = f
    · have hiK : i = K := by
        rcases Nat.lt_or_ge i K with h | h
        · exact absurd (hv ▸ hvf) (hK2.out i h)
        · omega
      subst hiK
      have q1 : ((v : Int) != (f : Int)) = false := by simp; omega
      have ct := hI2.out.dist t ht
      rw [← hdt.out] at ct
      have hIo := hI2
      have hw1 : w.heap.size + 1 < wr.heap.size := cell_lt hI2.out.r0
      replace hv := hide hv
      replace hvf := hide hvf
      have hb0' := hide hbel
      have hZ0 : WzI wr dt (.slice none 0 0) [] (wr.alloc (.cells #[.slice none 0 0, .int .i64 dt] 67)) :=
        ⟨by simp [go_sem], by simp [go_sem], by simp [go_sem], Own.nil _ _, up_alloc (Below.refl _ _) (Nat.le_refl _)⟩
      replace hZ0 := hide hZ0
      clear kb0 kb1 hbel
      go_wp2
      obtain ⟨wo, rfl⟩ : ∃ wo : World, wo = wr := ⟨_, rfl⟩
      generalize (wo.alloc (.cells #[.slice none 0 0, .int .i64 dt] 67)) = wz at hZ0 ⊢
      go_loopw [16] (fun s16 wr => ∃ (j k c0 : Nat) (a0 : Option Addr), j + k = i + 1 ∧ s16 = .int .i64 ((j : Int) - 1) ∧ Hid (WzI wo dt (.slice a0 k c0) ((pathL b i).take k) wr)) (fun s16 _ => (intOf s16 + 1).toNat)
      case atStart => exact ⟨i + 1, 0, 0, none, by omega, by go_num, by rw [List.take_zero]; exact hZ0⟩
      case round =>
        obtain ⟨j, k, c0, a0, hjk, rfl, hZ⟩ := hrel
        clear hZ0
        have z0 := hZ.out.o0
        have z1 := hZ.out.o1
        have zf := hZ.out.fo
        have zl := hZ.out.lt
        rcases j with _ | j
        · obtain rfl : k = i + 1 := by omega
          have e0 : ((0 : Nat) : Int) - 1 = -1 := by omega
          rw [e0]
          have hz7 := hZ.out.bel.size
          have r0 := cu_below hZ.out.bel hIo.out.r0 hw1
          have r1 := cu_below hZ.out.bel hIo.out.r1 hw1
          have f0 := fu_below hZ.out.bel hIo.out.f0 hw1
          have f1 := fu_below hZ.out.bel hIo.out.f1 hw1
          have hrl : w.heap.size + 1 < wr.heap.size := by omega
          have e2 : (pathL b i).take (i + 1) = pathL b i := List.take_of_length_le (by rw [pathL_len]; omega)
          have hne : (Value.slice a0 (i + 1) c0).ownBlock ≠ some (w.heap.size + 1) := fun e => by have := (hZ.out.own.block_lt (w.heap.size + 1) e).1; omega
          have own8 := (hZ.out.own.elsewhere (p := ⟨w.heap.size + 1, 0, none⟩) hne (.slice a0 (i + 1) c0)).elsewhere (p := ⟨w.heap.size + 1, 1, none⟩) hne (.int .i64 dt)
          rw [e2] at own8
          have hrow := own8.row lenI
          replace hrow := hide hrow
          have hbf := hide (((hb0'.out.trans (hZ.out.bel.mono (by omega))).setCell (p := ⟨w.heap.size + 1, 0, none⟩) (by simp) (.slice a0 (i + 1) c0)).setCell (p := ⟨w.heap.size + 1, 1, none⟩) (by simp) (.int .i64 dt))
          clear own8 hne e0 e2
          go_wp2
          refine bodyPost_ret (v := .tuple #[.agg #[.slice a0 (i + 1) c0, .int .i64 dt], .int .i64 0]) (by simp [results, Try.results69, go_sem, r0, r1, hrl]) rfl ?_
          obtain ⟨a8, c8, hv8, r8, _⟩ := hrow.out
          simp only [Value.slice.injEq] at hv8
          obtain ⟨rfl, _, rfl⟩ := hv8
          rw [← hdt.out]
          exact ⟨_, _, rfl, r8, hbf.out⟩
        · have e1 : ((j + 1 : Nat) : Int) - 1 = (j : Int) := by omega
          rw [e1]
          have cb := cu_below hZ.out.bel (own.out.atI j (by omega)) own.out.at_base.2
          have hgl : g < wr.heap.size := cell_lt cb
          have hlen : ((pathL b i).take k).length = k := by rw [List.length_take, pathL_len]; omega
          have hpt := pathL_take b i k (by omega)
          have e2 : i - k = j := by omega
          rw [e2] at hpt
          obtain ⟨x, hx⟩ : ∃ x : Int, x = ((b j : Nat) : Int) := ⟨_, rfl⟩
          rw [← hx] at hpt cb
          replace hx := hide hx
          replace hpt := hide hpt
          replace hlen := hide hlen
          have ij : (0 : Int) ≤ (j : Int) ∧ (j : Int) < (i : Int) + 1 := by omega
          have ij2 : (j : Int) < ((i + 1 : Nat) : Int) := by omega
          have hki : k ≤ i := by omega
          clear e1 e2
          go_wp2
          go_region_law (first
            | (refine step_pushAll (base := wo.heap.size + 1) (xs := (pathL b i).take k) (v := .slice a0 k c0) rfl (.tmp 92) (.tmp 97) 34 rfl _ 8 Try.underlying34 info_int rfl (by omega) lenI oneI k hlen.out rfl (hZ.out.own.alloc _).drew (wr.heap.size + 1) (some ⟨wr.heap.size, 0, none⟩) 1 1 [x] rfl rfl ((row1 (by simp [go_sem])).mono (by simp)) (by omega) (by unfold maxLen; omega) (by simp; omega) ?_; intro a4 c4 w4 own4 hb4 hg4; have hZ4 := (hZ.out.stays (w' := wr.alloc (.cells #[.int .i64 x] 3)) (up_alloc (Below.refl _ _) (Nat.le_refl _))); have hg5 : (wr.alloc (.cells #[.int .i64 x] 3)).grownBy w4 (Value.slice a0 k c0).ownBlock := ⟨hg4.os, hg4.tape, hg4.output, hg4.size, hg4.block⟩; have hZ5 := hZ4.grew own4 hg5; rw [← hpt.out] at hZ5; have hap4 := hZ4.ap; have k4 := hg5.cell hZ4.o0 (fun e => hap4 e.symm); have f4 := (hg5.frozen_far ⟨wo.heap.size, 0, none⟩ (by first | (simp; done) | (simp; omega)) (fun e => hap4 e.symm)).trans hZ4.fo))
          all_goals
            replace own4 := hide own4
            replace hb4 := hide hb4
            replace hg4 := hide hg4
            replace hg5 := hide hg5
            replace hZ4 := hide hZ4
            replace hZ5 := hide hZ5
            clear k4 f4 hap4 cb
            go_wp2
            go_roundw
            case rel => exact ⟨j, k + 1, c4, a4, by omega, by go_num, hZ5⟩
            case measure => simp [intOf] <;> omega
    · have hiK : i < K := by
        rcases Nat.lt_or_ge i K with h | h
        · exact h
        · exfalso
          have : i = K := by omega
          subst this
          exact hvf (by rw [hv]; exact hK0.out)
      have q1 : ((v : Int) != (f : Int)) = true := by simp; omega
      have hb1' := hide (show b (i + 1) = prevF n (nes es) d v by rw [hbs.out, hv])
      have hB2 := hide hI2.out.bel
      replace hv := hide hv
      replace hvf := hide hvf
      clear hbel
      obtain ⟨wo, rfl⟩ : ∃ wo : World, wo = wr := ⟨_, rfl⟩
      go_wp2
      go_loopw [12, 46] (fun s12 s46 wr => ∃ k : Nat, k ≤ es.length ∧ s46 = .int .i64 k ∧ s12 = .int .i64 ((pvK n es d v k : Nat) : Int) ∧ Hid (Below wo.heap.size wo wr)) (fun _ s46 _ => es.length - (intOf s46).toNat)
      case atStart => exact ⟨0, Nat.zero_le _, rfl, by rw [pvK_zero], Below.refl _ _⟩
      case round =>
        obtain ⟨k, hk, rfl, rfl, hb⟩ := hrel
        have hI3 := hide (hI2.out.stays hb.out)
        have hzq := hb.out.size
        have kb1 := hI3.out.b1
        have kb0 := hI3.out.b0
        obtain ⟨u0, hu0⟩ : ∃ u, u = pvK n es d v k := ⟨_, rfl⟩
        rw [← hu0]
        by_cases hlt : k < es.length
        · obtain ⟨x, y, d1, d2, d3, d4, d5, d6, dn⟩ := right_edge hes.out k hlt
          have hsu := hide (pvK_succ (n := n) (d := d) (v := v) dn)
          rw [← hu0] at hsu
          replace hu0 := hide hu0
          obtain ⟨eb, o, rfl, hbB, c0, c1, c2⟩ := hE.out.ed k hlt
          have c0 := cu_below hI3.out.bel c0 (by simp; omega)
          have c1 := cu_below hI3.out.bel c1 (by simp; omega)
          have c2 := cu_below hI3.out.bel c2 (by simp; omega)
          rw [d1] at c0
          rw [d2] at c1
          have hel : eb < wr.heap.size := cell_lt c0
          have cx := hI3.out.dist x d3
          have cv := hI3.out.dist v hvn.1
          have hDq := hI3.out.dlt
          have hdx := hd0.out x d3
          have hdv := hd0.out v hvn.1
          obtain ⟨c, hc⟩ : ∃ c, c = es[k].c := ⟨_, rfl⟩
          obtain ⟨p, hp⟩ : ∃ p, p = d x := ⟨_, rfl⟩
          obtain ⟨r, hr⟩ : ∃ r, r = d v := ⟨_, rfl⟩
          rw [← hc] at c2 d5 d6 hsu
          rw [← hp] at cx hdx hsu
          rw [← hr] at cv hdv hsu
          unfold FAR at hdx hdv
          have hw := hide (show IntKind.i64.wrap (p + c) = p + c from IntWalk.i64_in _ (by omega))
          have ix : (0 : Int) ≤ (x : Int) ∧ (x : Int) < (n : Int) := by omega
          have iv : (0 : Int) ≤ (v : Int) ∧ (v : Int) < (n : Int) := by omega
          have ik : (0 : Int) ≤ (k : Int) ∧ (k : Int) < (es.length : Int) := by omega
          replace hc := hide hc
          replace hp := hide hp
          replace hr := hide hr
          replace d1 := hide d1
          replace d2 := hide d2
          replace dn := hide dn
          have hcase : (y = v ∧ p + c = r) ∨ (y = v ∧ p + c ≠ r) ∨ y ≠ v := by
            by_cases h1 : y = v
            · by_cases h2 : p + c = r
              · exact .inl ⟨h1, h2⟩
              · exact .inr (.inl ⟨h1, h2⟩)
            · exact .inr (.inr h1)
          have hb4 := hide (show ∀ m, Below wo.heap.size wo ((wr.alloc (.cells #[.int .i64 (x : Int), .int .i64 (y : Int), .int .i64 c] 26)).drewN m) from fun m => up_drewN (up_alloc hb.out hzq))
          rcases hcase with ⟨h1, h2⟩ | ⟨h1, h2⟩ | h1
          · have e1 := hide (show pvK n es d v (k + 1) = min u0 x by rw [hsu.out, if_pos ⟨h1, h2⟩])
            have q2 : ((y : Int) == (v : Int)) = true := by simp; omega
            have q3 : (p + c == r) = true := by simp; omega
            replace h1 := hide h1
            replace h2 := hide h2
            go_wp2
            replace hw := hw.out
            go_quiet (fail)
            clear hw
            go_wp2
            go_roundw
            case rel => exact ⟨k + 1, by omega, by go_num, by rw [e1.out]; congr 1; split <;> omega, hide (hb4.out _)⟩
            case measure => simp [intOf] <;> omega
          · have e1 := hide (show pvK n es d v (k + 1) = u0 by rw [hsu.out, if_neg (fun h => h2 h.2)])
            have q2 : ((y : Int) == (v : Int)) = true := by simp; omega
            have q3 : (p + c == r) = false := by simp; omega
            replace h1 := hide h1
            replace h2 := hide h2
            go_wp2
            replace hw := hw.out
            go_quiet (fail)
            clear hw
            go_wp2
            go_roundw
            case rel => exact ⟨k + 1, by omega, by go_num, by rw [e1.out], hide (hb4.out _)⟩
            case measure => simp [intOf] <;> omega
          · have e1 := hide (show pvK n es d v (k + 1) = u0 by rw [hsu.out, if_neg (fun h => h1 h.1)])
            have q2 : ((y : Int) == (v : Int)) = false := by simp; omega
            replace h1 := hide h1
            go_wp2
            go_quiet (fail)
            go_wp2
            go_roundw
            case rel => exact ⟨k + 1, by omega, by go_num, by rw [e1.out], hide (hb4.out _)⟩
            case measure => simp [intOf] <;> omega
        · obtain rfl : k = es.length := by omega
          have hu1 : u0 = b (i + 1) := by rw [hu0, pvK_all, hb1'.out]
          replace hu0 := hide hu0
          replace hu1 := hide hu1
          have hown := hide (own.out.stays hb.out)
          have hlen : (LI (i + 1) (fun j => ((b j : Nat) : Int))).length = i + 1 := li_len _ _
          replace hlen := hide hlen
          have hDq := hI3.out.dlt
          have hgb := hown.out.at_base
          go_wp2_with (at_builtin; (refine wpList_push (e := 3) (enc := encI) (xs := (LI (i + 1) (fun j => ((b j : Nat) : Int)))) (v := .slice (some ⟨g, 0, none⟩) ((i + 1)) c) (base := w2.heap.size) rfl (.tmp 74) (.tmp 76) 34 rfl _ 8 Try.underlying34 info_int rfl ?d15 lenI oneI ((i + 1)) ?d25 ?d35 ?d45 ⟨wr.heap.size, 0, none⟩ 1 ((u0 : Nat) : Int) ?d55 ?d65 ?d75 ?d85 ?d95 ?_); (case d15 => omega); (case d25 => exact hlen.out); (case d35 => rfl); (case d45 => exact (hown.out.alloc _)); (case d55 => rfl); (case d65 => exact newI _ _ _ _ rfl); (case d75 => omega); (case d85 => unfold maxLen; omega); (case d95 => first | omega | (simp; done) | (simp; omega)); intro g5 c5 w5 own5 hb5 hgr5 hg5 hgl5; have hB5 := hide (unalloc hb5 (by omega)); replace own5 := hide own5; replace hb5 := hide hb5; replace hgr5 := hide hgr5)
          have hl2 : LI (i + 1) (fun j => ((b j : Nat) : Int)) ++ [((u0 : Nat) : Int)] = LI (i + 1 + 1) (fun j => ((b j : Nat) : Int)) := by rw [hu1.out]; exact (li_succ (i + 1) _).symm
          have own6 := own5.out
          rw [hl2] at own6
          replace own6 := hide own6
          have hI5 := hide (hI3.out.kept hB5.out hz2 hzw2)
          go_roundg (gk - 1)
          case measure => omega
          case rel => exact ⟨i + 1, g5, c5, by omega, by rw [hu1.out], rfl, own6, hI5⟩
end Go.Proofs.Ytgkiipmeigfjnaa

/-! felltop.begun returns true. No conditions. -/
namespace Go.Proofs.Ytgkiipmeigfjnaa
open Go.RowKit
set_option linter.unusedSimpArgs false
set_option linter.unusedVariables false
theorem begun_d0 : distF 2 [⟨0, 1, 5⟩] 0 0 = 0 := by decide
theorem begun_d1 : distF 2 [⟨0, 1, 5⟩] 0 1 = 5 := by decide
theorem begun_b1 : backF 2 (nes [⟨0, 1, 5⟩]) (distF 2 [⟨0, 1, 5⟩] 0) 1 1 = 0 := by decide
theorem begun_look : lookErr 2 [⟨0, 1, 5⟩] [0, 1] = 0 := by decide
theorem begun_way (a : Option Addr) (cap : Nat) (w : World) (B : Nat) (hB : B ≤ w.heap.size) (hE : Row encE 3 w B a [⟨0, 1, 5⟩]) :
    Calls Try.prog 69 #[.agg #[.int .i64 2, .slice a 1 cap], .int .i64 0, .int .i64 1] w (WayBack [0, 1] 2 5 0 w) := by
  have h := way_ok 2 a cap [⟨0, 1, 5⟩] 0 1 w B hB hE begun_look 1 begun_b1 (fun j hj => by
    match j, hj with
    | 0, _ => exact ⟨by decide, by decide⟩
    | 1, _ => exact ⟨by decide, by decide⟩) (fun j hj => by
    obtain rfl : j = 0 := by omega
    decide) (by decide) (fun u hu => by
    match u, hu with
    | 0, _ => exact ⟨by decide, by decide⟩
    | 1, _ => exact ⟨by decide, by decide⟩)
  exact h
/-- a slice of one edge, just built -/
theorem rowE1 (w : World) (t : TypeId) (x : Ed) : Row encE 3 (w.alloc (.cells #[.int .i64 x.u, .int .i64 x.v, .int .i64 x.c] t)) (w.heap.size + 1) (some ⟨w.heap.size, 0, none⟩) [x] := by
  intro i hi
  obtain rfl : i = 0 := by simp at hi; omega
  refine ⟨w.heap.size, 0, rfl, by omega, fun j u hu => ?_⟩
  have h := newE w t x w.heap.size rfl j u hu
  simpa [WideShapes.add_plain] using h
set_option maxRecDepth 100000 in
set_option maxHeartbeats 1000000 in
theorem begun_any (w : World) : Calls Try.prog 17 #[] w fun e w' => e = .returned (.bool true) ∧ Below w.heap.size w w' := by
  have hW := hide (fun a cap w B hB hE => begun_way a cap w B hB hE)
  unfold WayBack at hW
  go_enter Try.func17, Try.ntmps17
  go_wp2_with fail
  refine (hW.out _ _ _ (w.heap.size + 1) (by simp) (rowE1 w _ (⟨0, 1, 5⟩ : Ed))).mono ?_
  rintro e w1 ⟨a1, c1, rfl, hr1, hb1⟩
  have hbw := hide (unalloc (hb1.mono (by simp)) (Nat.le_refl _) : Below w.heap.size w w1)
  clear hb1
  go_wp2
  go_ret
  exact ⟨rfl, up_alloc hbw.out hbw.out.size⟩
end Go.Proofs.Ytgkiipmeigfjnaa

/-! What floyd.Wide and floyd.All return. Conditions: that the slice reads. -/
namespace Go.Proofs.Ytgkiipmeigfjnaa
open Go.RowKit
set_option linter.unusedSimpArgs false
set_option linter.unusedVariables false
def TabI (eo ei : TypeId) (rows : List (List Int)) (n : Nat) (err : Int) (w : World) (e : Ending) (w' : World) : Prop := ∃ g, e = .returned (.tuple #[.slice (some ⟨g, 0, none⟩) n n, .int .i64 err]) ∧ Own2 encI 1 eo ei w' w.heap.size (.slice (some ⟨g, 0, none⟩) n n) rows ∧ Below w.heap.size w w'
theorem right_it {n : Nat} {es : List Ed} (h : netErr n es = 0) : Right n es := (netErr_ok h).2.2.2
theorem fwide_bad (N : Int) (a : Option Addr) (cap : Nat) (es : List Ed) (w : World) (B : Nat) (hB : B ≤ w.heap.size) (hE : Row encE 3 w B a es) (hl : es.length ≤ 9223372036854775807) (h0 : netErr N es ≠ 0) :
    Calls Try.prog 16 #[.agg #[.int .i64 N, .slice a es.length cap]] w fun e w' => e = .returned (.tuple #[.slice none 0 0, .int .i64 (netErr N es)]) ∧ Below w.heap.size w w' := by
  have q0 : (netErr N es != 0) = true := by simp [h0]
  replace hE := hide hE
  clear h0
  go_enter Try.func16, Try.ntmps16
  go_wp2_with fail
  refine (check_any N a cap es _ B (by simp <;> omega) (hE.out.below ((by repeat (first | with_reducible exact Below.refl _ _ | with_reducible assumption | with_reducible refine up_drewN ?_ | with_reducible refine up_drew ?_ | (with_reducible refine up_alloc ?_ ?_; rotate_left; (first | omega | (simp <;> omega) | simp)) | (with_reducible refine up_set ?_ ?_; rotate_left; (first | omega | (simp <;> omega) | simp)) | (with_reducible refine Below.trans ?_ (Below.mono (by with_reducible assumption) ?_); rotate_left; (first | omega | (simp <;> omega) | simp)))) : Below w.heap.size w _) hB) hl).mono ?_
  rintro e w1 ⟨rfl, hb1⟩
  go_wp2
  go_ret2
  exact ⟨rfl, (by repeat (first | with_reducible exact Below.refl _ _ | with_reducible assumption | with_reducible refine up_drewN ?_ | with_reducible refine up_drew ?_ | (with_reducible refine up_alloc ?_ ?_; rotate_left; (first | omega | (simp <;> omega) | simp)) | (with_reducible refine up_set ?_ ?_; rotate_left; (first | omega | (simp <;> omega) | simp)) | (with_reducible refine Below.trans ?_ (Below.mono (by with_reducible assumption) ?_); rotate_left; (first | omega | (simp <;> omega) | simp))))⟩
set_option maxRecDepth 100000 in
theorem fwide_ok (n : Nat) (a : Option Addr) (cap : Nat) (es : List Ed) (w : World) (B : Nat) (hB : B ≤ w.heap.size) (hE : Row encE 3 w B a es) (hl : es.length ≤ 9223372036854775807) (h0 : netErr (n : Int) es = 0) :
    Calls Try.prog 16 #[.agg #[.int .i64 (n : Int), .slice a es.length cap]] w (TabI 34 3 (MXp n n (Wtab n (nes es))) n 0 w) := by
  obtain ⟨n1, n2, n3, n4⟩ := netErr_ok h0
  have hC := hide (show ∀ w B, _ from fun w B hB hE => by have := check_any (n : Int) a cap es w B hB hE hl; rwa [h0] at this)
  have hes := hide (right_it h0)
  replace hE := hide hE
  clear h0 n4
  go_enter Try.func16, Try.ntmps16
  go_wp2_with fail
  refine (hC.out _ B (by simp <;> omega) (hE.out.below ((by repeat (first | with_reducible exact Below.refl _ _ | with_reducible assumption | with_reducible refine up_drewN ?_ | with_reducible refine up_drew ?_ | (with_reducible refine up_alloc ?_ ?_; rotate_left; (first | omega | (simp <;> omega) | simp)) | (with_reducible refine up_set ?_ ?_; rotate_left; (first | omega | (simp <;> omega) | simp)) | (with_reducible refine Below.trans ?_ (Below.mono (by with_reducible assumption) ?_); rotate_left; (first | omega | (simp <;> omega) | simp)))) : Below w.heap.size w _) hB)).mono ?_
  rintro e w1 ⟨rfl, hb1⟩
  obtain ⟨hc1, hf1⟩ := bcell hb1
  have hz1 : w.heap.size < w1.heap.size := by have := hb1.size; simp at this; omega
  have hbw := hide (show Below w.heap.size w w1 from (by repeat (first | with_reducible exact Below.refl _ _ | with_reducible assumption | with_reducible refine up_drewN ?_ | with_reducible refine up_drew ?_ | (with_reducible refine up_alloc ?_ ?_; rotate_left; (first | omega | (simp <;> omega) | simp)) | (with_reducible refine up_set ?_ ?_; rotate_left; (first | omega | (simp <;> omega) | simp)) | (with_reducible refine Below.trans ?_ (Below.mono (by with_reducible assumption) ?_); rotate_left; (first | omega | (simp <;> omega) | simp)))))
  go_wp2_with fail
  refine (closed_W n a cap es _ B (by (try simp); omega) (hE.out.below ((by repeat (first | with_reducible exact Below.refl _ _ | with_reducible assumption | with_reducible refine up_drewN ?_ | with_reducible refine up_drew ?_ | (with_reducible refine up_alloc ?_ ?_; rotate_left; (first | omega | (simp <;> omega) | simp)) | (with_reducible refine up_set ?_ ?_; rotate_left; (first | omega | (simp <;> omega) | simp)) | (with_reducible refine Below.trans ?_ (Below.mono (by with_reducible assumption) ?_); rotate_left; (first | omega | (simp <;> omega) | simp)))) : Below w.heap.size w _) hB) (by omega) (by omega) n3 hes.out).mono ?_
  rintro e w2 ⟨g, rfl, own, hb2⟩
  replace own := hide own
  go_wp2
  go_ret2
  exact ⟨g, rfl, own.out.base_le (by simp; omega), (by repeat (first | with_reducible exact Below.refl _ _ | with_reducible assumption | with_reducible refine up_drewN ?_ | with_reducible refine up_drew ?_ | (with_reducible refine up_alloc ?_ ?_; rotate_left; (first | omega | (simp <;> omega) | simp)) | (with_reducible refine up_set ?_ ?_; rotate_left; (first | omega | (simp <;> omega) | simp)) | (with_reducible refine Below.trans ?_ (Below.mono (by with_reducible assumption) ?_); rotate_left; (first | omega | (simp <;> omega) | simp))))⟩
end Go.Proofs.Ytgkiipmeigfjnaa

/-! The walk of felltop.TopNeck: it returns true. Conditions: the arguments read as data, at most 1048576 edges. -/
namespace Go.Proofs.Ytgkiipmeigfjnaa
open Go.RowKit
set_option linter.unusedSimpArgs false
set_option linter.unusedVariables false
/-- turned round within 64 bits -/
def ng (c : Int) : Int := wrap64 (-c)
def turnW (es : List Ed) : List Ed := es.flatMap fun x => [(⟨x.u, x.v, ng x.c⟩ : Ed), ⟨x.v, x.u, ng x.c⟩]
theorem turnW_len (es : List Ed) : (turnW es).length = 2 * es.length := by
  unfold turnW
  induction es with
  | nil => rfl
  | cons x r ih => simp only [List.flatMap_cons, List.length_append, ih, List.length_cons, List.length_nil]; omega
theorem turnW_take {es : List Ed} {j : Nat} (h : j < es.length) : turnW (es.take (j + 1)) = turnW (es.take j) ++ [(⟨es[j].u, es[j].v, ng es[j].c⟩ : Ed), ⟨es[j].v, es[j].u, ng es[j].c⟩] := by
  unfold turnW
  rw [List.take_succ_eq_append_getElem h, List.flatMap_append]
  simp
theorem wr64 (n : Int) (h : -9223372036854775808 ≤ n ∧ n ≤ 9223372036854775807) : wrap64 n = n := by unfold wrap64; omega
theorem ng_small {c : Int} (h : -10000 ≤ c ∧ c ≤ 10000) : ng c = -c := wr64 _ (by omega)
theorem turn_by (f : Int → Int) : ∀ l : List Ed, (∀ e ∈ l, f e.c = -e.c) → (l.flatMap fun x => [(⟨x.u, x.v, f x.c⟩ : Ed), ⟨x.v, x.u, f x.c⟩]) = l.flatMap fun x => [(⟨x.u, x.v, -x.c⟩ : Ed), ⟨x.v, x.u, -x.c⟩]
  | [], _ => rfl
  | x :: r, h => by
    have h1 := h x (by simp)
    have h2 := turn_by f r (fun e he => h e (List.mem_cons_of_mem _ he))
    rw [List.flatMap_cons, List.flatMap_cons, h2, h1]
theorem turnW_right {n : Nat} {es : List Ed} (h : Right n es) : turnW es = turnE es := turn_by ng es (fun e he => ng_small ⟨(h e he).2.2.2.2.1, (h e he).2.2.2.2.2⟩)
theorem Own.rowE2 {w : World} {base n c : Nat} {e : TypeId} {a : Option Addr} {xs : List Ed} (h : Own encE 3 e w base (.slice a n c) xs) : Row encE 3 w w.heap.size a xs := by
  obtain ⟨a', c', hv, hr, _⟩ := h.row lenE
  injection hv with g1 g2 g3
  subst g1
  exact hr
/-- a net that grows in block p: w2 the world at the start -/
structure Gn (eo : TypeId) (p : Nat) (n : Int) (w2 : World) (v : Value) (xs : List Ed) (wr : World) : Prop where
  c0 : wr.cell? ⟨p, 0, none⟩ = some (.int .i64 n)
  c1 : wr.cell? ⟨p, 1, none⟩ = some v
  f0 : ∀ o, wr.frozen? ⟨p, o, none⟩ = false
  o1 : Own encE 3 eo wr w2.heap.size v xs
  kp : Keep (fun j => j = p) w2 wr
  lp : p < w2.heap.size
section
variable {eo : TypeId} {p : Nat} {n : Int} {w2 wr w' : World} {v v' : Value} {xs : List Ed}
theorem Gn.stays (h : Gn eo p n w2 v xs wr) (b : Below wr.heap.size wr w') : Gn eo p n w2 v xs w' :=
  have a1 := cell_lt h.c0
  ⟨cu_below b h.c0 a1, cu_below b h.c1 a1, fun o => fu_below b (h.f0 o) a1, h.o1.stays b, h.kp.trans (Keep.new b), h.lp⟩
theorem Gn.grew (h : Gn eo p n w2 v xs wr) {ys : List Ed} {wo : World} (hwo : Keep (fun j => v.ownBlock = some j) wr wo) (own : Own encE 3 eo w' w2.heap.size v' ys) (hg : wo.grownBy w' v.ownBlock) : Gn eo p n w2 v' ys (w'.setCell ⟨p, 1, none⟩ v') := by
  have hk : Keep (fun j => v.ownBlock = some j) wr w' := hwo.grown hg (fun k hk => .inl hk)
  have b1 := h.o1.block_lt
  have a1 := h.lp
  have n1 : v.ownBlock ≠ some p := fun e => by have := (b1 p e).1; omega
  have z1 : p < wr.heap.size := cell_lt h.c0
  have c1' := hk.cu h.c1 n1
  refine ⟨cu_set_off (hk.cu h.c0 n1) (by omega), World.cell?_setCell_same _ _ _ c1', fun o => fu_set ((hk.frozen z1 n1).trans (h.f0 o)), own.elsewhere (fun e => by have := (own.block_lt _ e).1; simp at this; omega) _, ?_, a1⟩
  have h2 : Keep (fun j => j = p) w2 w' := by
    refine h.kp.trans2 hk ?_
    exact fun j e => by have := (b1 j e).1; omega
  exact h2.setCell (.inl rfl) _
end
theorem row_two {w : World} {t : TypeId} {x y : Ed} : Row encE 3 (w.alloc (.cells #[.int .i64 x.u, .int .i64 x.v, .int .i64 x.c, .int .i64 y.u, .int .i64 y.v, .int .i64 y.c] t)) (w.heap.size + 1) (some ⟨w.heap.size, 0, none⟩) [x, y] := by
  intro i hi
  refine ⟨w.heap.size, 0, rfl, by omega, fun j u hu => ?_⟩
  have hi2 : i = 0 ∨ i = 1 := by simp at hi; omega
  rcases hi2 with rfl | rfl
  · match j, hu with
    | 0, hu => simp [encE] at hu; subst hu; simp [go_sem]
    | 1, hu => simp [encE] at hu; subst hu; simp [go_sem]
    | 2, hu => simp [encE] at hu; subst hu; simp [go_sem]
  · match j, hu with
    | 0, hu => simp [encE] at hu; subst hu; simp [go_sem]
    | 1, hu => simp [encE] at hu; subst hu; simp [go_sem]
    | 2, hu => simp [encE] at hu; subst hu; simp [go_sem]
theorem edErr_ne {N : Int} {e : Ed} : edErr N e ≠ 5 := by
  unfold edErr
  repeat' split
  all_goals omega
theorem edsErr_ne {N : Int} : ∀ (es : List Ed), edsErr N es ≠ 5
  | [] => by simp [edsErr]
  | e :: r => by
    unfold edsErr
    split
    · exact edErr_ne
    · exact edsErr_ne r
theorem netErr_ne {N : Int} {es : List Ed} : netErr N es ≠ 5 := by
  unfold netErr
  split
  · omega
  · split
    · omega
    · exact edsErr_ne es
/-- what Neck says of a net, two places -/
def NeckSays (N : Int) (es : List Ed) (p q best x : Int) : Prop := (x ≠ 0 ∧ x ≠ 5) ∨ ∃ n a b : Nat, N = (n : Int) ∧ p = (a : Int) ∧ q = (b : Int) ∧ a < n ∧ b < n ∧ a ≠ b ∧ Right n es ∧ NeckAns (JN es a b) es best x
def NeckAny (N : Int) (es : List Ed) (p q : Int) (w : World) (e : Ending) (w' : World) : Prop := ∃ best x, e = .returned (.tuple #[.int .i64 best, .int .i64 x]) ∧ NeckSays N es p q best x ∧ Below w.heap.size w w'
theorem neck_any (N p q : Int) (an : Option Addr) (cap : Nat) (es : List Ed) (w : World) (B : Nat) (hB : B ≤ w.heap.size) (hE : Row encE 3 w B an es) (hl : es.length ≤ 9223372036854775807) :
    Calls Try.prog 15 #[.agg #[.int .i64 N, .slice an es.length cap], .int .i64 p, .int .i64 q] w (NeckAny N es p q w) := by
  by_cases h0 : netErr N es = 0
  · by_cases hab : p < 0 ∨ N ≤ p ∨ q < 0 ∨ N ≤ q ∨ p = q
    · exact (neck_arg N p q an cap es w B hB hE hl h0 hab).mono fun e w' ⟨h1, h2⟩ => ⟨0, 1, h1, .inl ⟨by omega, by omega⟩, h2⟩
    · obtain ⟨n1, n2, n3, n4⟩ := netErr_ok h0
      obtain ⟨n, rfl⟩ := Int.eq_ofNat_of_zero_le (show 0 ≤ N by omega)
      obtain ⟨a, rfl⟩ := Int.eq_ofNat_of_zero_le (show 0 ≤ p by omega)
      obtain ⟨b, rfl⟩ := Int.eq_ofNat_of_zero_le (show 0 ≤ q by omega)
      have ha : a < n := by omega
      have hb : b < n := by omega
      have hne : a ≠ b := by omega
      exact (neck_ok n a b an cap es w B hB hE hl h0 ha hb hne).mono fun e w' ⟨best, x, h1, h2, h3⟩ => ⟨best, x, h1, .inr ⟨n, a, b, rfl, rfl, rfl, ha, hb, hne, n4, h2⟩, h3⟩
  · exact (neck_bad N p q an cap es w B hB hE hl h0).mono fun e w' ⟨h1, h2⟩ => ⟨0, _, h1, .inl ⟨h0, netErr_ne⟩, h2⟩
/-- what Wide says -/
def WideAny (N : Int) (hs : List Ed) (w : World) (e : Ending) (w' : World) : Prop := ∃ v f, e = .returned (.tuple #[v, .int .i64 f]) ∧ Below w.heap.size w w' ∧ (f = 0 → ∃ (n g : Nat), N = (n : Int) ∧ v = .slice (some ⟨g, 0, none⟩) n n ∧ g < w'.heap.size ∧ ∀ a b, a < n → b < n → ∃ ga ca, w'.cell? ⟨g, a, none⟩ = some (.slice (some ⟨ga, 0, none⟩) n ca) ∧ ga < w'.heap.size ∧ w'.cell? ⟨ga, b, none⟩ = some (.int .i64 (wide n (nes hs) a b)))
theorem fwide_any (N : Int) (an : Option Addr) (cap : Nat) (es : List Ed) (w : World) (B : Nat) (hB : B ≤ w.heap.size) (hE : Row encE 3 w B an es) (hl : es.length ≤ 9223372036854775807) :
    Calls Try.prog 16 #[.agg #[.int .i64 N, .slice an es.length cap]] w (WideAny N es w) := by
  by_cases h0 : netErr N es = 0
  · obtain ⟨n1, n2, n3, n4⟩ := netErr_ok h0
    obtain ⟨n, rfl⟩ := Int.eq_ofNat_of_zero_le (show 0 ≤ N by omega)
    refine (fwide_ok n an cap es w B hB hE hl h0).mono fun e w' ⟨g, h1, h2, h3⟩ => ⟨_, 0, h1, h3, fun _ => ⟨n, g, rfl, rfl, ?_, ?_⟩⟩
    · obtain ⟨av, cv, hc, _⟩ := h2.at 0 (by rw [mxp_len]; omega)
      exact cell_lt hc
    · intro a b ha hb
      obtain ⟨av, cv, hc, ho, _⟩ := h2.at a (by rw [mxp_len]; exact ha)
      rw [mxp_get _ _ _ _ ha, rw_len] at hc
      rw [mxp_get _ _ _ _ ha, rw_len] at ho
      obtain ⟨ga, rfl, _, hga⟩ := ho.blockI (by omega)
      refine ⟨ga, cv, hc, hga, ?_⟩
      have := ho.getI b (by rw [rw_len]; exact hb)
      rw [rw_get] at this
      exact this
  · exact (fwide_bad N an cap es w B hB hE hl h0).mono fun e w' ⟨h1, h2⟩ => ⟨_, _, h1, h2, fun h => absurd h h0⟩
set_option maxRecDepth 100000 in
set_option maxHeartbeats 4000000 in
theorem walk_TopNeck (x0 : Int) (a0 : Option Addr) (cap0 : Nat) (es0 : List Ed) (x1 : Int) (x2 : Int) (w : World) (b0 : Bd x0) (l0 : es0.length ≤ cap0) (m0 : cap0 ≤ maxLen) (r0 : Row encE 3 w w.heap.size a0 es0) (be0 : ∀ x ∈ es0, BdE x) (b1 : Bd x1) (b2 : Bd x2) (n0 : es0.length ≤ 1048576) :
    Calls Try.prog 3 #[.agg #[.int .i64 x0, .slice a0 es0.length cap0], .int .i64 x1, .int .i64 x2] w fun e w' => e = .returned (.bool true) ∧ Below w.heap.size w w' := by
  replace r0 := hide r0
  replace be0 := hide be0
  have hBg := hide begun_any
  obtain ⟨p, hp⟩ : ∃ p, p = w.heap.size + 1 := ⟨_, rfl⟩
  have hlw := hide (fun j => turnW_len (es0.take j))
  go_enter Try.func3, Try.ntmps3
  go_wp2
  obtain ⟨w2, hw2⟩ : ∃ w2, w2 = (w.alloc (.cells #[.int .i64 x0, .slice a0 es0.length cap0] 24)).alloc (.cells #[.int .i64 x0, .slice none 0 0] 24) := ⟨_, rfl⟩
  have hs2 : w2.heap.size = w.heap.size + 1 + 1 := by rw [hw2]; simp
  have hbw2 := hide (show Below w.heap.size w w2 by rw [hw2]; exact (by repeat (first | with_reducible exact Below.refl _ _ | with_reducible assumption | with_reducible refine up_drewN ?_ | with_reducible refine up_drew ?_ | (with_reducible refine up_alloc ?_ ?_; rotate_left; (first | omega | (simp <;> omega) | simp)) | (with_reducible refine up_set ?_ ?_; rotate_left; (first | omega | (simp <;> omega) | simp)) | (with_reducible refine Below.trans ?_ (Below.mono (by with_reducible assumption) ?_); rotate_left; (first | omega | (simp <;> omega) | simp)))))
  have N0 : w2.cell? ⟨w.heap.size, 0, none⟩ = some (.int .i64 x0) := by rw [hw2]; simp [go_sem]
  have N1 : w2.cell? ⟨w.heap.size, 1, none⟩ = some (.slice a0 es0.length cap0) := by rw [hw2]; simp [go_sem]
  have hG0 : Hid (Gn 26 (w.heap.size + 1) x0 w2 (.slice none 0 0) (turnW (es0.take 0)) w2) := hide (by
    refine ⟨by rw [hw2]; simp [go_sem], by rw [hw2]; simp [go_sem], fun o => by rw [hw2]; simp [go_sem], ?_, Keep.refl _ _, by omega⟩
    rw [List.take_zero]
    exact Own.nil _ _)
  simp only [← hw2]
  replace hw2 := hide hw2
  have hr2 := hide (r0.out.below hbw2.out (Nat.le_refl _))
  go_wp2
  go_loopw [9, 20] (fun _ i wr => ∃ (j m : Nat) (y1 : Option Addr) (e1 : Nat), j ≤ es0.length ∧ m = 2 * j ∧ i = .int .i64 j ∧ Hid (Gn 26 (w.heap.size + 1) x0 w2 (.slice y1 m e1) (turnW (es0.take j)) wr)) (fun _ i _ => es0.length - (intOf i).toNat)
  case atStart => exact ⟨0, 0, none, 0, Nat.zero_le _, rfl, rfl, hG0⟩
  case round =>
    clear hG0
    obtain ⟨j, m, y1, e1, hj, hm, rfl, hG⟩ := hrel
    have hzr := hG.out.kp.size
    have hpr : w.heap.size + 1 < wr.heap.size := by omega
    have hzw : w.heap.size < wr.heap.size := by omega
    have g1 := hG.out.c1
    have g0 := hG.out.f0 1
    have hap := hide (show (Value.slice y1 m e1).ownBlock ≠ some (w.heap.size + 1) from fun e => by have := (hG.out.o1.block_lt _ e).1; omega)
    by_cases hlt : j < es0.length
    · obtain ⟨b, o, rfl, hbB, q0, q1, q2⟩ := hr2.out.ed j hlt
      have q0 := hG.out.kp.cu q0 (by simp; omega)
      have q1 := hG.out.kp.cu q1 (by simp; omega)
      have q2 := hG.out.kp.cu q2 (by simp; omega)
      have hbr : b < wr.heap.size := by omega
      have htk := hide (turnW_take hlt)
      have hbd := (be0.out es0[j] (List.getElem_mem hlt)).2.2
      have hlj : (turnW (es0.take j)).length = m := by rw [hlw.out, List.length_take]; omega
      obtain ⟨ed, hed⟩ : ∃ ed, ed = es0[j] := ⟨_, rfl⟩
      rw [← hed] at q0 q1 q2 htk hbd
      replace hed := hide hed
      replace hlj := hide hlj
      have ij : (0 : Int) ≤ (j : Int) ∧ (j : Int) < (es0.length : Int) := by omega
      unfold Bd at hbd
      have hrw := row_two (w := wr.alloc (.cells #[.int .i64 ed.u, .int .i64 ed.v, .int .i64 ed.c] 26)) (t := 26) (x := ⟨ed.u, ed.v, ng ed.c⟩) (y := ⟨ed.v, ed.u, ng ed.c⟩)
      simp only [World.size_alloc] at hrw
      replace hrw := hide hrw
      have hmb : m ≤ 2097152 := by omega
      replace hm := hide hm
      go_wp2_with (at_builtin; (refine wpList_all rfl (.tmp 25) (.tmp 42) 22 rfl _ 24 Try.underlying22 info_ed rfl ?d1 lenE oneE m ?d2 rfl ((hG.out.o1.alloc _).alloc _) _ (some ⟨wr.heap.size + 1, 0, none⟩) 2 2 [(⟨ed.u, ed.v, ng ed.c⟩ : Ed), ⟨ed.v, ed.u, ng ed.c⟩] ?d3 rfl hrw.out ?d4 ?d5 ?d6 ?_); (case d1 => omega); (case d2 => exact hlj.out); (case d3 => rfl); (case d4 => omega); (case d5 => unfold maxLen; omega); (case d6 => simp; omega); intro a4 c4 w4 own4 hb4 hg4; have z14 := hg4.cell (a := ⟨w.heap.size + 1, 1, none⟩) (v := .slice y1 m e1) (cu_alloc (cu_alloc g1)) (fun e => hap.out e.symm); have z24 := (hg4.frozen_far ⟨w.heap.size + 1, 1, none⟩ (by simp; omega) (fun e => hap.out e.symm)).trans (fu_alloc (fu_alloc g0)); have hp4 : w.heap.size + 1 < w4.heap.size := cell_lt z14; replace own4 := hide own4; replace hb4 := hide hb4; replace hg4 := hide hg4)
      have hG9 := hide (hG.out.grew (((Keep.refl _ _).alloc _).alloc _) own4.out hg4.out)
      go_roundw
      case rel => exact ⟨j + 1, m + 2, a4, c4, by omega, by have := hm.out; omega, by go_num, hide (by rw [htk.out]; exact hG9.out)⟩
      case measure => simp [intOf]; omega
    · obtain rfl : es0.length = j := by omega
      have hG2 := hG.out
      rw [List.take_length] at hG2
      have hwl : (turnW es0).length = m := by rw [turnW_len]; omega
      have hmb : m ≤ 2097152 := by omega
      replace hm := hide hm
      have k0 := hG2.kp.cu N0 (by simp)
      have k1 := hG2.kp.cu N1 (by simp)
      have c0 := hG2.c0
      have hrT := hide hG2.o1.rowE2
      have hbr := hide (hbw2.out.trans (hG2.kp.toBelow (B := w.heap.size) (fun k e => by omega) (by omega)))
      have hrr := hide (r0.out.below hbr.out (Nat.le_refl _))
      have hNk := hide (neck_any x0 x1 x2 a0 cap0 es0 wr w.heap.size (by omega) hrr.out (by omega))
      have hWd := hide (fun (w' : World) hB hE => fwide_any x0 y1 e1 (turnW es0) w' wr.heap.size hB hE (by omega))
      unfold NeckAny at hNk
      rw [hwl] at hWd
      clear hG hG2 N0 N1
      go_wp2_with fail
      refine hNk.out.mono ?_
      rintro e w3 ⟨best, x, rfl, hsay, hb3⟩
      replace hsay := hide hsay
      have d0 := cu_below hb3 c0 hpr
      have d1 := cu_below hb3 g1 hpr
      have hp3 : w.heap.size + 1 < w3.heap.size := cell_lt d0
      have hb3' := hide (hbr.out.trans (hb3.mono (by omega)))
      have hr3 := hide (hrT.out.below hb3 (Nat.le_refl _))
      have hz3 := hb3.size
      clear hb3 k0 k1 c0 g1 g0
      go_wp2_with fail
      refine (hWd.out w3 hz3 hr3.out).mono ?_
      rintro e w4 ⟨v, f, rfl, hb4, htab⟩
      have hb4' := hide (hb3'.out.trans (hb4.mono (by omega)))
      replace htab := hide htab
      have hz4 : w.heap.size ≤ w4.heap.size := hb4'.out.size
      clear hb4 d0 d1
      go_wp2_with fail
      refine (hBg.out _).mono ?_
      rintro e w5 ⟨rfl, hb5⟩
      have hb5' := hide (hb4'.out.trans (hb5.mono hz4))
      have hz5 : w.heap.size ≤ w5.heap.size := hb5'.out.size
      by_cases hf : f = 0
      · rcases hsay.out with ⟨hx0, hx5⟩ | ⟨n, a, b, rfl, rfl, rfl, ha, hb, hab, hR, hans⟩
        · have q1 : (x != 0) = true := by simp [hx0]
          have q2 : (x != 5) = true := by simp [hx5]
          have q3 : (f != 0) = false := by simp [hf]
          clear hx0 hx5 hf
          go_wp2_with fail
          refine (hBg.out _).mono ?_
          rintro e w6 ⟨rfl, hb6⟩
          have hb6' := hide (hb5'.out.trans (hb6.mono hz5))
          go_wp2
          go_ret
          exact ⟨rfl, hb6'.out⟩
        · obtain ⟨n', g, hn', rfl, hgl, hcell⟩ := htab.out hf
          obtain rfl : n = n' := by omega
          obtain ⟨ga, ca, e1', hga, e2⟩ := hcell a b ha hb
          rw [turnW_right hR, neck_wide hR ha hb hab hans] at e2
          have e1' := cu_below hb5 e1' hgl
          have e2 := cu_below hb5 e2 hga
          have hgl5 := cell_lt e1'
          have hga5 := cell_lt e2
          have q3 : (f != 0) = false := by simp [hf]
          have ia : (0 : Int) ≤ (a : Int) ∧ (a : Int) < (n : Int) := by omega
          have ib : (0 : Int) ≤ (b : Int) ∧ (b : Int) < (n : Int) := by omega
          clear hcell hn' hf hb5
          rcases hans with ⟨rfl, rfl, _⟩ | ⟨rfl, ⟨y, hy, rfl, _⟩, _⟩
          · rw [if_pos rfl] at e2
            unfold FAR at e2
            go_wp2
            go_ret
            exact ⟨rfl, hb5'.out⟩
          · rw [if_neg (by omega)] at e2
            have hyc := hR y hy
            have hw64 := wr64 (-y.c) (by omega)
            go_wp2
            go_ret
            exact ⟨rfl, hb5'.out⟩
      · have q3 : (f != 0) = true := by simp [hf]
        clear hf
        go_wp2_with fail
        refine (hBg.out _).mono ?_
        rintro e w6 ⟨rfl, hb6⟩
        have hb6' := hide (hb5'.out.trans (hb6.mono hz5))
        go_wp2
        go_ret
        exact ⟨rfl, hb6'.out⟩
end Go.Proofs.Ytgkiipmeigfjnaa
