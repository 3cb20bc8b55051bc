/-
  Edges in the order of their costs, joined one by one: the first that joins two places is the least cost that does. No program here.
-/
import Derived.Test.YtdpbkhempgghaaaSortP
import Derived.Test.YtdpbkhempgghaaaDijkO
import Derived.Test.YtdpbkhempgghaaaUOf
namespace Go.Proofs.Ytdpbkhempgghaaa
set_option linter.unusedVariables false

/-- one group -/
def Conn (d : List (Nat × Nat)) (a b : Nat) : Prop := ∀ g : Nat → Nat, Resp d g → g a = g b
theorem Conn.mono {d d' : List (Nat × Nat)} {a b : Nat} (hs : ∀ p ∈ d, p ∈ d') (h : Conn d a b) : Conn d' a b := fun g hg => h g (fun p hp => hg p (hs p hp))
theorem done_conn {d : List (Nat × Nat)} {f : Nat → Nat} (h : Done d d f) (a b : Nat) : root f a = root f b ↔ Conn d a b := by
  constructor
  · intro e g hg
    rw [← h.2.1.2 g hg a, ← h.2.1.2 g hg b, e]
  · intro hc
    exact hc _ h.2.2
theorem done_snoc {d : List (Nat × Nat)} {f : Nat → Nat} (h : Done d d f) (p : Nat × Nat) : Done (d ++ [p]) (d ++ [p]) (joined f p.1 p.2) :=
  done_join (l := d ++ [p]) ⟨h.1, ⟨h.2.1.1, fun g hg => h.2.1.2 g (fun q hq => hg q (List.mem_append_left _ hq))⟩, h.2.2⟩ (by simp)
theorem done_more : ∀ (r d : List (Nat × Nat)) (f : Nat → Nat), Done d d f → ∃ f', Done (d ++ r) (d ++ r) f'
  | [], d, f, h => ⟨f, by simpa using h⟩
  | p :: r, d, f, h => by
    have := done_more r (d ++ [p]) _ (done_snoc h p)
    simpa using this
theorem rounds_conn {n : Nat} {l : List (Nat × Nat)} (hl : ∀ p ∈ l, p.1 < n ∧ p.2 < n) {a b : Nat} (ha : a < n) (hb : b < n) : rounds l n a = rounds l n b ↔ Conn l a b := by
  obtain ⟨f, h⟩ := done_more l [] _ (done_start [])
  simp only [List.nil_append] at h
  rw [done_all h hl a ha, done_all h hl b hb]
  exact done_conn h a b
theorem conn_nil {a b : Nat} (h : a ≠ b) : ¬ Conn [] a b := fun hc => h (hc (fun x => x) (fun p hp => by cases hp))

/-- costs with numbers -/
def popsK (es : List Ed) (k : Nat) : List P2 := (List.range k).map fun (i : Nat) => ⟨(edAt es (i : Int)).c, (i : Int)⟩
theorem popsK_len (es : List Ed) (k : Nat) : (popsK es k).length = k := by simp [popsK]
theorem popsK_succ (es : List Ed) (k : Nat) : popsK es (k + 1) = popsK es k ++ [⟨(edAt es (k : Int)).c, (k : Int)⟩] := by simp [popsK, List.range_succ]
theorem edAt_c {es : List Ed} {i : Nat} (hi : i < es.length) : (edAt es (i : Int)).c = es[i].c := by
  unfold edAt nes
  simp [List.getD, List.getElem?_eq_getElem hi]
theorem edAt_uv {es : List Ed} {i : Nat} (hi : i < es.length) : ((edAt es (i : Int)).u, (edAt es (i : Int)).v) = (es[i].u.toNat, es[i].v.toNat) := by
  unfold edAt nes
  simp [List.getD, List.getElem?_eq_getElem hi]
def pairAt (es : List Ed) (x : P2) : Nat × Nat := ((edAt es x.b).u, (edAt es x.b).v)
def orderOf (es : List Ed) : List P2 := sortP (popsK es es.length)
theorem orderOf_len (es : List Ed) : (orderOf es).length = es.length := by
  unfold orderOf
  rw [(sortP_ok _).1.length_eq, popsK_len]
theorem orderOf_mem {es : List Ed} {x : P2} (h : x ∈ orderOf es) : ∃ i : Nat, ∃ hi : i < es.length, x = ⟨es[i].c, (i : Int)⟩ ∧ pairAt es x = (es[i].u.toNat, es[i].v.toNat) := by
  have := (sortP_ok _).1.mem_iff.1 h
  obtain ⟨i, hi, rfl⟩ := List.mem_map.1 this
  have hi' : i < es.length := List.mem_range.1 hi
  exact ⟨i, hi', by rw [edAt_c hi'], edAt_uv hi'⟩
theorem mem_orderOf {es : List Ed} {i : Nat} (hi : i < es.length) : (⟨es[i].c, (i : Int)⟩ : P2) ∈ orderOf es := by
  refine (sortP_ok _).1.mem_iff.2 (List.mem_map.2 ⟨i, List.mem_range.2 hi, ?_⟩)
  rw [edAt_c hi]
theorem orderOf_le {es : List Ed} {i j : Nat} (hij : i ≤ j) (hj : j < (orderOf es).length) : ((orderOf es)[i]'(by omega)).a ≤ (orderOf es)[j].a := by
  rcases Nat.lt_or_eq_of_le hij with h | h
  · have := List.pairwise_iff_getElem.1 (sortP_ok (popsK es es.length)).2 i j (by unfold orderOf at hj; omega) hj h
    simp only [popLt, Bool.or_eq_false_iff, decide_eq_false_iff_not] at this
    have h1 := this.1
    unfold orderOf
    omega
  · subst h; exact Int.le_refl _
/-- the pairs of the first k -/
def joinedK (es : List Ed) (k : Nat) : List (Nat × Nat) := ((orderOf es).take k).map (pairAt es)
theorem joinedK_succ (es : List Ed) (k : Nat) (h : k < (orderOf es).length) : joinedK es (k + 1) = joinedK es k ++ [pairAt es (orderOf es)[k]] := by
  unfold joinedK
  rw [List.take_succ_eq_append_getElem h, List.map_append]
  rfl
/-- the edges of so much at most -/
def thr (c : Int) (es : List Ed) : List Ed := es.filter fun e => decide (e.c ≤ c)
def thrP (c : Int) (es : List Ed) : List P2 := (thr c es).map fun e => ⟨e.u, e.v⟩
theorem thr_mem {c : Int} {es : List Ed} {p : Nat × Nat} : p ∈ natPairs (thrP c es) ↔ ∃ i, ∃ hi : i < es.length, es[i].c ≤ c ∧ p = (es[i].u.toNat, es[i].v.toNat) := by
  unfold natPairs thrP thr
  simp only [List.map_map, List.mem_map, List.mem_filter, decide_eq_true_eq, Function.comp]
  constructor
  · rintro ⟨e, ⟨he, hc⟩, rfl⟩
    obtain ⟨i, hi, rfl⟩ := List.getElem_of_mem he
    exact ⟨i, hi, hc, rfl⟩
  · rintro ⟨i, hi, hc, rfl⟩
    exact ⟨es[i], ⟨List.getElem_mem hi, hc⟩, rfl⟩
theorem joined_thr {es : List Ed} {k : Nat} (hk : k < (orderOf es).length) : ∀ p ∈ joinedK es (k + 1), p ∈ natPairs (thrP (orderOf es)[k].a es) := by
  intro p hp
  obtain ⟨x, hx, rfl⟩ := List.mem_map.1 hp
  obtain ⟨j, hj, hxj⟩ := List.getElem_of_mem hx
  rw [List.length_take] at hj
  rw [List.getElem_take] at hxj
  have hle := orderOf_le (es := es) (i := j) (j := k) (by omega) hk
  rw [hxj] at hle
  obtain ⟨i, hi, h1, h2⟩ := orderOf_mem (List.mem_of_mem_take hx)
  refine thr_mem.2 ⟨i, hi, ?_, h2⟩
  rw [h1] at hle
  exact hle
theorem thr_joined {es : List Ed} {k : Nat} {c : Int} (hc : ∀ j (h : j < (orderOf es).length), k ≤ j → c < (orderOf es)[j].a) : ∀ p ∈ natPairs (thrP c es), p ∈ joinedK es k := by
  intro p hp
  obtain ⟨i, hi, h1, rfl⟩ := thr_mem.1 hp
  obtain ⟨j, hj, hx⟩ := List.getElem_of_mem (mem_orderOf hi)
  have hjk : j < k := by
    rcases Nat.lt_or_ge j k with h | h
    · exact h
    · have := hc j hj h
      rw [hx] at this
      simp only at this
      omega
  refine List.mem_map.2 ⟨(orderOf es)[j], ?_, ?_⟩
  · exact List.mem_take_iff_getElem.2 ⟨j, by omega, rfl⟩
  · rw [hx]
    exact edAt_uv hi
/-- the answer: the least cost of an edge such that the edges of so much join the places -/
def NeckAns (J : Int → Prop) (es : List Ed) (best x : Int) : Prop := (x = 5 ∧ best = 0 ∧ ∀ w ∈ es, ¬ J w.c) ∨ (x = 0 ∧ (∃ w ∈ es, best = w.c ∧ J w.c) ∧ ∀ w ∈ es, J w.c → best ≤ w.c)
theorem neck_one {J : Int → Prop} {es : List Ed} {a x b y : Int} (h : NeckAns J es a x) (k : NeckAns J es b y) : a = b ∧ x = y := by
  rcases h with ⟨h1, h2, h3⟩ | ⟨h1, ⟨w, hw, h2, h3⟩, h4⟩ <;> rcases k with ⟨k1, k2, k3⟩ | ⟨k1, ⟨u, hu, k2, k3⟩, k4⟩
  · omega
  · exact absurd k3 (h3 u hu)
  · exact absurd h3 (k3 w hw)
  · have := h4 u hu k3
    have := k4 w hw h3
    omega
def JN (es : List Ed) (a b : Nat) (c : Int) : Prop := Conn (natPairs (thrP c es)) a b
theorem neck_found {es : List Ed} {a b k : Nat} (hk : k < (orderOf es).length) (h0 : ¬ Conn (joinedK es k) a b) (h1 : Conn (joinedK es (k + 1)) a b) : NeckAns (JN es a b) es (orderOf es)[k].a 0 := by
  obtain ⟨i, hi, e1, e2⟩ := orderOf_mem (List.getElem_mem hk)
  refine .inr ⟨rfl, ⟨es[i], List.getElem_mem hi, by rw [e1], ?_⟩, ?_⟩
  · have := h1.mono (joined_thr hk)
    rw [e1] at this
    exact this
  · intro w hw hj
    rcases Int.lt_or_le w.c (orderOf es)[k].a with hlt | hge
    · exact absurd (hj.mono (thr_joined fun j h hkj => Int.lt_of_lt_of_le hlt (orderOf_le hkj h))) h0
    · exact hge
theorem neck_none {es : List Ed} {a b : Nat} (h0 : ¬ Conn (joinedK es es.length) a b) : NeckAns (JN es a b) es 0 5 := by
  refine .inl ⟨rfl, rfl, fun w hw hj => h0 (hj.mono (thr_joined fun j h hkj => ?_))⟩
  rw [orderOf_len] at h
  omega
/-- the reference's step -/
theorem neck_start (J : Int → Prop) : NeckAns J [] 0 5 := .inl ⟨rfl, rfl, fun w hw => by cases hw⟩
theorem neck_take {J : Int → Prop} {es : List Ed} {k : Nat} (hk : k < es.length) {best x : Int} (h : NeckAns J (es.take k) best x) (hj : J es[k].c) (hq : x ≠ 0 ∨ es[k].c < best) : NeckAns J (es.take (k + 1)) es[k].c 0 := by
  rw [List.take_succ_eq_append_getElem hk]
  refine .inr ⟨rfl, ⟨es[k], List.mem_append_right _ (List.mem_singleton.2 rfl), rfl, hj⟩, fun w hw hw2 => ?_⟩
  rcases List.mem_append.1 hw with hw | hw
  · rcases h with ⟨h1, h2, h3⟩ | ⟨h1, h2, h3⟩
    · exact absurd hw2 (h3 w hw)
    · have := h3 w hw hw2
      omega
  · obtain rfl := List.mem_singleton.1 hw
    exact Int.le_refl _
theorem neck_keep {J : Int → Prop} {es : List Ed} {k : Nat} (hk : k < es.length) {best x : Int} (h : NeckAns J (es.take k) best x) (hq : ¬ J es[k].c ∨ (x = 0 ∧ best ≤ es[k].c)) : NeckAns J (es.take (k + 1)) best x := by
  rw [List.take_succ_eq_append_getElem hk]
  rcases h with ⟨h1, h2, h3⟩ | ⟨h1, ⟨u, hu, h2, h2'⟩, h3⟩
  · refine .inl ⟨h1, h2, fun w hw => ?_⟩
    rcases List.mem_append.1 hw with hw | hw
    · exact h3 w hw
    · obtain rfl := List.mem_singleton.1 hw
      rcases hq with hq | hq
      · exact hq
      · omega
  · refine .inr ⟨h1, ⟨u, List.mem_append_left _ hu, h2, h2'⟩, fun w hw hw2 => ?_⟩
    rcases List.mem_append.1 hw with hw | hw
    · exact h3 w hw hw2
    · obtain rfl := List.mem_singleton.1 hw
      rcases hq with hq | hq
      · exact absurd hw2 hq
      · exact hq.2
end Go.Proofs.Ytdpbkhempgghaaa
