/-
  What holds while yen.K searches: what is found, what waits, where it lies. No condition.
-/
import Derived.Test.YtcehdpeeaogpiaaYenD
import Derived.Test.YtcehdpeeaogpiaaYenL
import Derived.Test.YtcehdpeeaogpiaaHeapYPop
namespace Go.Proofs.Ytcehdpeeaogpiaa
open Go.RowKit
set_option linter.unusedSimpArgs false
set_option linter.unusedVariables false
/-- the steps that some lists go behind b, one for each -/
def nxtL (ps : List (List Nat)) (b : List Nat) : List Nat := ps.filterMap (fun p => if b.length < p.length ∧ p.take b.length = b then some (p.getD b.length 0) else none)
theorem onw_form {p b : List Nat} : (b.length < p.length ∧ p.take b.length = b) ↔ ∃ v r, p = b ++ v :: r := by
  constructor
  · rintro ⟨h1, h2⟩
    refine ⟨p[b.length], p.drop (b.length + 1), ?_⟩
    conv => lhs; rw [← List.take_append_drop b.length p, h2, List.drop_eq_getElem_cons h1]
  · rintro ⟨v, r, rfl⟩
    simp
theorem onw_get {p b : List Nat} {v : Nat} {r : List Nat} (h : p = b ++ v :: r) : p.getD b.length 0 = v := by subst h; simp [List.getD]
theorem nxtL_mem {ps : List (List Nat)} {b : List Nat} {v : Nat} : v ∈ nxtL ps b ↔ ∃ p ∈ ps, ∃ r, p = b ++ v :: r := by
  unfold nxtL
  rw [List.mem_filterMap]
  constructor
  · rintro ⟨p, hp, h⟩
    split at h
    · rename_i hc
      obtain ⟨v', r, e⟩ := onw_form.1 hc
      rw [onw_get e] at h
      simp only [Option.some.injEq] at h
      subst h
      exact ⟨p, hp, r, e⟩
    · cases h
  · rintro ⟨p, hp, r, e⟩
    exact ⟨p, hp, by rw [if_pos (onw_form.2 ⟨v, r, e⟩), onw_get e]⟩
theorem nxt_is (out : List Wy) (b : List Nat) : Nxt out b = fun v => v ∈ nxtL (out.map (·.p)) b := by
  funext v
  rw [nxtL_mem]
  unfold Nxt
  apply propext
  constructor
  · rintro ⟨x, hx, r, e⟩; exact ⟨x.p, List.mem_map.2 ⟨x, hx, rfl⟩, r, e⟩
  · rintro ⟨p, hp, r, e⟩
    obtain ⟨x, hx, rfl⟩ := List.mem_map.1 hp
    exact ⟨x, hx, r, e⟩
theorem nxtL_take {ps : List (List Nat)} {b : List Nat} {k : Nat} (h : k < ps.length) : nxtL (ps.take (k + 1)) b = if b.length < ps[k].length ∧ ps[k].take b.length = b then nxtL (ps.take k) b ++ [ps[k].getD b.length 0] else nxtL (ps.take k) b := by
  unfold nxtL
  rw [List.take_succ_eq_append_getElem h, List.filterMap_append]
  by_cases q : b.length < ps[k].length ∧ ps[k].take b.length = b
  · rw [if_pos q]; simp [q]
  · rw [if_neg q]; simp [List.filterMap_cons, q]
theorem nxtL_len (ps : List (List Nat)) (b : List Nat) : (nxtL ps b).length ≤ ps.length := List.length_filterMap_le _ _
/-- while the ways that go on from m are put in: those that leave it before place i are in -/
structure KW (es : List Ed) (s t : Nat) (out : List Wy) (m : Wy) (i : Nat) (wait0 W : List Wy) : Prop where
  sub : ∀ x ∈ wait0, x ∈ W
  all : ∀ x ∈ W, YW es s t x
  inv : ∀ b v r, m.p = b ++ v :: r → b ≠ [] → b.length < i → ∀ y, YW es s t y → Onw b (Nxt (out ++ [m]) b) y.p → ∃ c ∈ W, Onw b (Nxt (out ++ [m]) b) c.p ∧ yLt y c = false
theorem kw_start {es : List Ed} {s t : Nat} {out wait0 : List Wy} {m : Wy} (h : ∀ x ∈ wait0, YW es s t x) : KW es s t out m 1 wait0 wait0 :=
  ⟨fun x hx => hx, h, fun b v r e hb hl => absurd (List.length_pos_iff.2 hb) (by omega)⟩
theorem kw_step {es : List Ed} {s t : Nat} {out wait0 W W' : List Wy} {m : Wy} {i : Nat} {c : Option Wy} (h : KW es s t out m i wait0 W) (ho : OnwIs es s t (m.p.take i) (Nxt (out ++ [m]) (m.p.take i)) c) (hp : W'.Perm (W ++ c.toList)) : KW es s t out m (i + 1) wait0 W' := by
  have hsub : ∀ x ∈ W, x ∈ W' := fun x hx => hp.mem_iff.2 (List.mem_append_left _ hx)
  refine ⟨fun x hx => hsub x (h.sub x hx), fun x hx => ?_, fun b v r e hb hl y hy hoy => ?_⟩
  · rcases List.mem_append.1 (hp.mem_iff.1 hx) with hx | hx
    · exact h.all x hx
    · cases c with
      | none => simp at hx
      | some c =>
        simp at hx
        subst hx
        exact ho.1
  · by_cases hi : b.length < i
    · obtain ⟨c', h1, h2⟩ := h.inv b v r e hb hi y hy hoy
      exact ⟨c', hsub c' h1, h2⟩
    · have hbi : b.length = i := by omega
      have hbt : m.p.take i = b := by rw [e, ← hbi]; simp
      rw [hbt] at ho
      cases c with
      | none => exact absurd hoy (ho y hy)
      | some c => exact ⟨c, hp.mem_iff.2 (List.mem_append_right _ (by simp)), ho.2.1, ho.2.2 y hy hoy⟩
theorem kw_end {es : List Ed} {s t : Nat} {out wait wait0 W : List Wy} {m : Wy} (h : YI (YW es s t) out wait) (hk : KW es s t out m m.p.length wait0 W) (hp : (m :: wait0).Perm wait) (hl : ∀ x ∈ wait, yLt x m = false) (hm : m ∉ out) (hd : out.Pairwise (fun a b => yLt a b = true)) :
    YI (YW es s t) (out ++ [m]) W ∧ (out ++ [m]).Pairwise (fun a b => yLt a b = true) := by
  have hmS : YW es s t m := h.wS m (hp.mem_iff.1 List.mem_cons_self)
  refine ⟨yi_take (yw_ys es s t) h hp hl hm hk.sub hk.all (fun b v r e hb y hy ho => hk.inv b v r e hb (by rw [e]; simp) y hy ho), ?_⟩
  rw [List.pairwise_append]
  refine ⟨hd, List.pairwise_singleton _ _, fun a ha b hb => ?_⟩
  rw [List.mem_singleton.1 hb]
  exact h.low a ha m hmS hm
/-- a way is known by its places -/
theorem yw_mem {es : List Ed} {s t : Nat} {out : List Wy} {m : Wy} (ho : ∀ x ∈ out, YW es s t x) (hm : YW es s t m) : m ∈ out ↔ ∃ x ∈ out, x.p = m.p := by
  constructor
  · exact fun h => ⟨m, h, rfl⟩
  · rintro ⟨x, hx, e⟩
    have : x = m := by
      have h1 := (ho x hx).2
      have h2 := hm.2
      rw [e, ← h2] at h1
      cases x; cases m; simp_all
    rw [← this]
    exact hx
/-- a beginning of a way -/
theorem sim_take {E : List NE} {s t : Nat} {p : List Nat} (h : Sim E s t p) {i : Nat} (h1 : 1 ≤ i) (h2 : i < p.length) : ∃ b0 u, p.take i = b0 ++ [u] ∧ b0.length + 1 = i ∧ (∃ r, b0 ++ [u] = s :: r) ∧ (b0 ++ [u]).Nodup ∧ Lnk E (b0 ++ [u]) ∧ u ≠ t := by
  obtain ⟨j, rfl⟩ : ∃ j, i = j + 1 := ⟨i - 1, by omega⟩
  have hpe : p = (p.take j ++ [p[j]]) ++ p.drop (j + 1) := by
    rw [← List.take_succ_eq_append_getElem (by omega), List.take_append_drop]
  refine ⟨p.take j, p[j], List.take_succ_eq_append_getElem (by omega), by rw [List.length_take]; omega, ?_, ?_, ?_, ?_⟩
  · obtain ⟨r, hr⟩ := h.hd
    rw [← List.take_succ_eq_append_getElem (by omega), hr]
    exact ⟨r.take j, rfl⟩
  · have := h.nd
    rw [hpe] at this
    exact (List.nodup_append.1 this).1
  · have := h.lnk
    rw [hpe] at this
    exact lnk_pre this
  · intro e
    have h3 := h.last
    have h4 := h.nd
    rw [hpe] at h3 h4
    have hne : p.drop (j + 1) ≠ [] := by
      intro e2
      have := congrArg List.length e2
      rw [List.length_drop] at this
      simp at this
      omega
    rw [List.getLast?_append, List.getLast?_eq_some_getLast hne, Option.some_or] at h3
    have : t ∈ p.drop (j + 1) := by simp only [Option.some.injEq] at h3; rw [← h3]; exact List.getLast_mem hne
    exact (List.nodup_append.1 h4).2.2 p[j] (List.mem_append_right _ (List.mem_singleton.2 rfl)) t this e
/-- the blocks that K writes to: the heap's, its slice's, that of what is found -/
def AK (g : Nat) (hv vo : Value) (b : Nat) : Prop := b = g ∨ hv.ownBlock = some b ∨ vo.ownBlock = some b
/-- a way that reads, in a block of its own -/
def GY (A : Nat → Prop) (w : World) (x : Yv) : Prop := PB w x ∧ ∃ b o, x.a = some ⟨b, o, none⟩ ∧ b < w.heap.size ∧ ¬ A b
/-- what is not among those blocks stays, and is not among the later ones -/
def KS (A A' : Nat → Prop) (w w' : World) : Prop := w.heap.size ≤ w'.heap.size ∧ ∀ b, b < w.heap.size → ¬ A b → w'.heap[b]? = w.heap[b]? ∧ ¬ A' b
theorem GY.move {A A' : Nat → Prop} {w w' : World} {x : Yv} (h : GY A w x) (k : KS A A' w w') : GY A' w' x := by
  obtain ⟨hp, b, o, h1, h2, h3⟩ := h
  obtain ⟨k1, k2⟩ := k.2 b h2 h3
  refine ⟨⟨hp.len, hp.cap, hp.max, fun i hi => ?_⟩, b, o, h1, Nat.lt_of_lt_of_le h2 k.1, k2⟩
  obtain ⟨b', o', e1, e2, e3⟩ := hp.row i hi
  rw [h1] at e1
  simp only [Option.some.injEq, Addr.mk.injEq] at e1
  obtain ⟨rfl, rfl, _⟩ := e1
  exact ⟨b, o, h1, Nat.lt_of_lt_of_le h2 k.1, fun j u hu => by rw [World.cell?_of_block (w := w) k1]; exact e3 j u hu⟩
theorem KS.cell {A A' : Nat → Prop} {w w' : World} (k : KS A A' w w') {p : Addr} {v : Value} (h : w.cell? p = some v) (hA : ¬ A p.block) : w'.cell? p = some v := by
  rw [World.cell?_of_block (w := w) (k.2 p.block (cell_lt h) hA).1]
  exact h
theorem KS.below {A : Nat → Prop} {w w' : World} (h : Below w.heap.size w w') : KS A A w w' := ⟨h.size, fun b hb hA => ⟨h.block b hb, hA⟩⟩
theorem GY.stays {A : Nat → Prop} {w w' : World} {x : Yv} (h : GY A w x) (k : Below w.heap.size w w') : GY A w' x := h.move (KS.below k)
theorem GY.apt {A : Nat → Prop} {w : World} {x : Yv} (h : GY A w x) {S : Nat → Prop} (hs : ∀ b, S b → A b) : Apt S x := by
  obtain ⟨_, b, o, h1, _, h3⟩ := h
  intro ad had hS
  rw [h1] at had
  cases had
  exact h3 (hs b hS)
/-- where all lies while K searches: w at the start, its net in block w.heap.size -/
structure KI (lf : Value) (w : World) (g : Nat) (N : Int) (a : Option Addr) (E cap : Nat) (hv : Value) (q : Nat) (f : Nat → Yv) (vo : Value) (xs : List Yv) (wr : World) : Prop where
  bel : Below w.heap.size w wr
  x0 : wr.cell? ⟨w.heap.size, 0, none⟩ = some (.int .i64 N)
  x1 : wr.cell? ⟨w.heap.size, 1, none⟩ = some (.slice a E cap)
  hp : HeapY wr (w.heap.size + 1) g lf hv q f
  ou : Own encY 2 36 wr (w.heap.size + 1) vo xs
  s1 : ∀ b, hv.ownBlock = some b → vo.ownBlock ≠ some b
  s2 : vo.ownBlock ≠ some g
  gh : ∀ i, i < q → GY (AK g hv vo) wr (f i)
  go : ∀ x ∈ xs, GY (AK g hv vo) wr x
section
variable {lf : Value} {w wr w' : World} {g E cap q : Nat} {N : Int} {a : Option Addr} {hv vo : Value} {f f' : Nat → Yv} {xs : List Yv} {y : Yv}
theorem KI.old (h : KI lf w g N a E cap hv q f vo xs wr) : ∀ b, AK g hv vo b → w.heap.size + 1 ≤ b ∧ b < wr.heap.size := by
  rintro b (rfl | hb | hb)
  · exact ⟨h.hp.bg, h.hp.lt⟩
  · exact h.hp.own.block_lt b hb
  · exact h.ou.block_lt b hb
theorem KI.stays (h : KI lf w g N a E cap hv q f vo xs wr) (b : Below wr.heap.size wr w') : KI lf w g N a E cap hv q f vo xs w' :=
  ⟨h.bel.trans (b.mono h.bel.size), cu_below b h.x0 (cell_lt h.x0), cu_below b h.x1 (cell_lt h.x1), h.hp.stays b, h.ou.stays b, h.s1, h.s2, fun i hi => (h.gh i hi).stays b, fun x hx => (h.go x hx).stays b⟩
/-- behind a push -/
theorem KI.push (h : KI lf w g N a E cap hv q f vo xs wr) (hy : GY (AK g hv vo) wr y) (hp : HeapedY wr (w.heap.size + 1) g lf hv (q + 1) f' w') (hm : (RW (q + 1) f').Perm (RW q f ++ [y])) :
    ∃ gs c, KI lf w g N a E cap (.slice (some ⟨gs, 0, none⟩) (q + 1) c) (q + 1) f' vo xs w' ∧ KS (AK g hv vo) (AK g (.slice (some ⟨gs, 0, none⟩) (q + 1) c) vo) wr w' := by
  obtain ⟨gs, c, hH, hK, hat⟩ := hp
  have ho := h.old
  have hbv := h.ou.block_lt
  have ks : KS (AK g hv vo) (AK g (.slice (some ⟨gs, 0, none⟩) (q + 1) c) vo) wr w' := by
    refine ⟨hK.size, fun b hb hA => ⟨hK.block b hb (fun e => hA (e.elim .inl (fun e => .inr (.inl e)))), ?_⟩⟩
    rintro (e | e | e)
    · exact hA (.inl e)
    · simp only [Value.ownBlock, Option.some.injEq] at e
      subst e
      rcases hat with e | e
      · exact hA (.inr (.inl e))
      · omega
    · exact hA (.inr (.inr e))
  have hx : ¬ (AK g hv vo w.heap.size) := fun e => by have := (ho _ e).1; omega
  have hkx : ¬ (w.heap.size = g ∨ hv.ownBlock = some w.heap.size) := fun e => hx (e.elim .inl (fun e => .inr (.inl e)))
  refine ⟨gs, c, ⟨h.bel.trans (hK.toBelow (fun k hk => ?_) h.bel.size), ks.cell h.x0 hx, ks.cell h.x1 hx, hH, hK.own h.ou (fun k hk e => ?_), fun b hb e => ?_, h.s2, fun i hi => ?_, fun x hxs => (h.go x hxs).move ks⟩, ks⟩
  · have := (ho k (hk.elim .inl (fun e => .inr (.inl e)))).1
    omega
  · rcases e with e | e
    · subst e; exact h.s2 hk
    · exact h.s1 k e hk
  · simp only [Value.ownBlock, Option.some.injEq] at hb
    subst hb
    rcases hat with e2 | e2
    · exact h.s1 gs e2 e
    · have := (hbv gs e).2; omega
  · have hmem : f' i ∈ RW (q + 1) f' := by rw [RW]; exact List.mem_map.2 ⟨i, List.mem_range.2 hi, rfl⟩
    rcases List.mem_append.1 (hm.mem_iff.1 hmem) with h1 | h1
    · obtain ⟨j, hj, e⟩ := List.mem_map.1 (by rw [RW] at h1; exact h1)
      rw [← e]
      exact (h.gh j (List.mem_range.1 hj)).move ks
    · rw [List.mem_singleton.1 h1]
      exact hy.move ks
/-- behind a pop -/
theorem KI.pop {gs c : Nat} (h : KI lf w g N a E cap (.slice (some ⟨gs, 0, none⟩) (q + 1) c) (q + 1) f vo xs wr) (hH : HeapY w' (w.heap.size + 1) g lf (.slice (some ⟨gs, 0, none⟩) q c) q f') (hK : Keep (fun k => k = g ∨ k = gs) wr w') (hm : (f 0 :: RW q f').Perm (RW (q + 1) f)) :
    KI lf w g N a E cap (.slice (some ⟨gs, 0, none⟩) q c) q f' vo xs w' ∧ GY (AK g (.slice (some ⟨gs, 0, none⟩) q c) vo) w' (f 0) := by
  have ho := h.old
  have hA : ∀ b, AK g (.slice (some ⟨gs, 0, none⟩) q c) vo b ↔ AK g (.slice (some ⟨gs, 0, none⟩) (q + 1) c) vo b := fun b => by simp [AK, Value.ownBlock]
  have ks : KS (AK g (.slice (some ⟨gs, 0, none⟩) (q + 1) c) vo) (AK g (.slice (some ⟨gs, 0, none⟩) q c) vo) wr w' := by
    refine ⟨hK.size, fun b hb hn => ⟨hK.block b hb (fun e => hn ?_), fun e => hn ((hA b).1 e)⟩⟩
    rcases e with e | e
    · exact .inl e
    · exact .inr (.inl (by simp [Value.ownBlock, e]))
  have hx : ¬ (AK g (.slice (some ⟨gs, 0, none⟩) (q + 1) c) vo w.heap.size) := fun e => by have := (ho _ e).1; omega
  have hgs : AK g (.slice (some ⟨gs, 0, none⟩) (q + 1) c) vo gs := .inr (.inl rfl)
  refine ⟨⟨h.bel.trans (hK.toBelow (fun k hk => ?_) h.bel.size), ks.cell h.x0 hx, ks.cell h.x1 hx, hH, hK.own h.ou (fun k hk e => ?_), fun b hb => h.s1 b (by simpa [Value.ownBlock] using hb), h.s2, fun i hi => ?_, fun x hxs => (h.go x hxs).move ks⟩, (h.gh 0 (by omega)).move ks⟩
  · rcases hk with rfl | rfl
    · have := h.hp.bg; omega
    · have := (ho _ hgs).1; omega
  · rcases e with e | e
    · subst e; exact h.s2 hk
    · subst e; exact h.s1 k rfl hk
  · have hmem : f' i ∈ RW q f' := by rw [RW]; exact List.mem_map.2 ⟨i, List.mem_range.2 hi, rfl⟩
    have h1 := hm.mem_iff.1 (List.mem_cons_of_mem _ hmem)
    obtain ⟨j, hj, e⟩ := List.mem_map.1 (by rw [RW] at h1; exact h1)
    rw [← e]
    exact (h.gh j (List.mem_range.1 hj)).move ks
/-- behind an append to what is found -/
theorem KI.found {g' c' n' : Nat} (h : KI lf w g N a E cap hv q f vo xs wr) (hy : GY (AK g hv vo) wr y) (own : Own encY 2 36 w' (w.heap.size + 1) (.slice (some ⟨g', 0, none⟩) n' c') (xs ++ [y])) (hK : Keep (fun k => vo.ownBlock = some k) wr w') (hat : vo.ownBlock = some g' ∨ wr.heap.size ≤ g') :
    KI lf w g N a E cap hv q f (.slice (some ⟨g', 0, none⟩) n' c') (xs ++ [y]) w' ∧ KS (AK g hv vo) (AK g hv (.slice (some ⟨g', 0, none⟩) n' c')) wr w' := by
  have ho := h.old
  have ks : KS (AK g hv vo) (AK g hv (.slice (some ⟨g', 0, none⟩) n' c')) wr w' := by
    refine ⟨hK.size, fun b hb hA => ⟨hK.block b hb (fun e => hA (.inr (.inr e))), ?_⟩⟩
    rintro (e | e | e)
    · exact hA (.inl e)
    · exact hA (.inr (.inl e))
    · simp only [Value.ownBlock, Option.some.injEq] at e
      subst e
      rcases hat with e | e
      · exact hA (.inr (.inr e))
      · omega
  have hx : ¬ (AK g hv vo w.heap.size) := fun e => by have := (ho _ e).1; omega
  refine ⟨⟨h.bel.trans (hK.toBelow (fun k hk => ?_) h.bel.size), ks.cell h.x0 hx, ks.cell h.x1 hx, h.hp.keep hK (fun e => h.s2 e) (fun k hk e => h.s1 k hk e), own, fun b hb e => ?_, fun e => ?_, fun i hi => (h.gh i hi).move ks, fun x hxs => ?_⟩, ks⟩
  · have := (ho k (.inr (.inr hk))).1; omega
  · simp only [Value.ownBlock, Option.some.injEq] at e
    subst e
    rcases hat with e | e
    · exact h.s1 g' hb e
    · have := (ho g' (.inr (.inl hb))).2; omega
  · simp only [Value.ownBlock, Option.some.injEq] at e
    subst e
    rcases hat with e | e
    · exact h.s2 e
    · have := h.hp.lt; omega
  · rcases List.mem_append.1 hxs with hxs | hxs
    · exact (h.go x hxs).move ks
    · rw [List.mem_singleton.1 hxs]
      exact hy.move ks
end
end Go.Proofs.Ytcehdpeeaogpiaa
