/-
  What holds while flow.seek runs: where each place was come to by, which were seen. No condition.
-/
import Derived.Test.YtcehdpeeaogpiaaFlowQ
import Derived.Test.YtcehdpeeaogpiaaQueue
namespace Go.Proofs.Ytcehdpeeaogpiaa
open Go.RowKit
set_option linter.unusedSimpArgs false
set_option linter.unusedVariables false
theorem Own.atRB {e : TypeId} {w : World} {base g n c : Nat} {f : Nat → Bool} (h : Own encB 1 e w base (.slice (some ⟨g, 0, none⟩) n c) (RW n f)) (i : Nat) (hi : i < n) : w.cell? ⟨g, i, none⟩ = some (.bool (f i)) := by
  have := h.getB i (by rw [rw_len]; exact hi)
  rwa [rw_get] at this
theorem Own.setRB {e : TypeId} {w : World} {base g n c : Nat} {f : Nat → Bool} (h : Own encB 1 e w base (.slice (some ⟨g, 0, none⟩) n c) (RW n f)) (i : Nat) (hi : i < n) (x : Bool) : Own encB 1 e (w.setCell ⟨g, i, none⟩ (.bool x)) base (.slice (some ⟨g, 0, none⟩) n c) (RW n (upz f i x)) := by
  have := h.putB i (by rw [rw_len]; exact hi) x
  rwa [rw_set] at this
theorem rw_rep' (n : Nat) : List.replicate n false = RW n (fun _ => false) := rw_rep n false
/-- the net's box at w0's end; by's block gb -/
structure KB (w0 : World) (n m : Nat) (a : Option Addr) (cap gb : Nat) (by_ : Nat → Int) (wr : World) : Prop where
  c0 : wr.cell? ⟨w0.heap.size, 0, none⟩ = some (.int .i64 (n : Int))
  c1 : wr.cell? ⟨w0.heap.size, 1, none⟩ = some (.slice a m cap)
  bo : Own encI 1 3 wr (w0.heap.size + 1) (.slice (some ⟨gb, 0, none⟩) n n) (LI n by_)
  bel : Below w0.heap.size w0 wr
section
variable {w0 wr w' : World} {n m : Nat} {a : Option Addr} {cap gb gs : Nat} {by_ : Nat → Int} {sn : Nat → Bool}
theorem KB.lt (h : KB w0 n m a cap gb by_ wr) : w0.heap.size < gb ∧ gb < wr.heap.size := by
  have := h.bo.at_base
  omega
theorem KB.keep (h : KB w0 n m a cap gb by_ wr) {S : Nat → Prop} (kp : Keep S wr w') (h1 : ¬ S w0.heap.size) (h2 : ¬ S gb) (h3 : ∀ k, S k → w0.heap.size ≤ k) : KB w0 n m a cap gb by_ w' :=
  ⟨kp.cu h.c0 h1, kp.cu h.c1 h1, kp.own h.bo (fun k hk => by simp [Value.ownBlock] at hk; subst hk; exact h2), h.bel.trans (kp.toBelow h3 h.bel.size)⟩
theorem KB.stays (h : KB w0 n m a cap gb by_ wr) (hb : Below wr.heap.size wr w') : KB w0 n m a cap gb by_ w' := h.keep (Keep.new (S := fun _ => False) hb) (fun h => h) (fun h => h) (fun k hk => hk.elim)
theorem KB.set (h : KB w0 n m a cap gb by_ wr) (i : Nat) (hi : i < n) (x : Int) : KB w0 n m a cap gb (upz by_ i x) (wr.setCell ⟨gb, i, none⟩ (.int .i64 x)) := by
  have hl := h.lt
  exact ⟨cu_set h.c0 (by simp; omega), cu_set h.c1 (by simp; omega), h.bo.setI i hi x, h.bel.setCell (by simp; omega) _⟩
theorem KB.recost (h : KB w0 n m a cap gb by_ wr) {b2 : Nat → Int} (e : LI n by_ = LI n b2) : KB w0 n m a cap gb b2 wr := ⟨h.c0, h.c1, e ▸ h.bo, h.bel⟩
theorem kb_start {w w1 : World} {n m : Nat} {a : Option Addr} {cap : Nat} (own : Own encI 1 3 w1 w.heap.size (.slice (some ⟨(w.alloc (.cells #[.int .i64 (n : Int), .slice a m cap] 24)).heap.size, 0, none⟩) n n) (List.replicate n 0))
    (hb : Below (w.alloc (.cells #[.int .i64 (n : Int), .slice a m cap] 24)).heap.size (w.alloc (.cells #[.int .i64 (n : Int), .slice a m cap] 24)) w1) : KB w n m a cap (w.heap.size + 1) (fun _ => 0) w1 := by
  have e0 : (w.alloc (.cells #[.int .i64 (n : Int), .slice a m cap] 24)).cell? ⟨w.heap.size, 0, none⟩ = some (.int .i64 (n : Int)) := by simp [go_sem]
  have e1 : (w.alloc (.cells #[.int .i64 (n : Int), .slice a m cap] 24)).cell? ⟨w.heap.size, 1, none⟩ = some (.slice a m cap) := by simp [go_sem]
  have hs : (w.alloc (.cells #[.int .i64 (n : Int), .slice a m cap] 24)).heap.size = w.heap.size + 1 := by simp
  rw [hs] at own
  rw [li_rep] at own
  refine ⟨(hb.cell (cell_lt e0)).trans e0, (hb.cell (cell_lt e1)).trans e1, ⟨own.1, ?_⟩, (up_alloc (Below.refl _ _) (Nat.le_refl _)).trans (hb.mono (by simp))⟩
  rcases own.2 with h | ⟨g, c, cur, hv, hg, r⟩
  · exact .inl h
  · refine .inr ⟨g, c, cur, hv, ?_, r⟩
    simp only [Value.slice.injEq, Option.some.injEq, Addr.mk.injEq] at hv
    omega
structure KX (w0 : World) (n m : Nat) (a : Option Addr) (cap gb gs : Nat) (by_ : Nat → Int) (sn : Nat → Bool) (wr : World) : Prop where
  kb : KB w0 n m a cap gb by_ wr
  so : Own encB 1 4 wr (w0.heap.size + 1) (.slice (some ⟨gs, 0, none⟩) n n) (RW n sn)
  ne : gb ≠ gs
theorem KX.lt (h : KX w0 n m a cap gb gs by_ sn wr) : w0.heap.size < gb ∧ gb < wr.heap.size ∧ w0.heap.size < gs ∧ gs < wr.heap.size := by
  have := h.kb.lt
  have := h.so.at_base
  omega
theorem KX.keep (h : KX w0 n m a cap gb gs by_ sn wr) {S : Nat → Prop} (kp : Keep S wr w') (h1 : ¬ S w0.heap.size) (h2 : ¬ S gb) (h4 : ¬ S gs) (h3 : ∀ k, S k → w0.heap.size ≤ k) : KX w0 n m a cap gb gs by_ sn w' :=
  ⟨h.kb.keep kp h1 h2 h3, kp.own h.so (fun k hk => by simp [Value.ownBlock] at hk; subst hk; exact h4), h.ne⟩
theorem KX.stays (h : KX w0 n m a cap gb gs by_ sn wr) (hb : Below wr.heap.size wr w') : KX w0 n m a cap gb gs by_ sn w' := h.keep (Keep.new (S := fun _ => False) hb) (fun h => h) (fun h => h) (fun h => h) (fun k hk => hk.elim)
theorem KX.setB (h : KX w0 n m a cap gb gs by_ sn wr) (i : Nat) (hi : i < n) (x : Int) : KX w0 n m a cap gb gs (upz by_ i x) sn (wr.setCell ⟨gb, i, none⟩ (.int .i64 x)) := by
  have hl := h.lt
  have kp := (Keep.refl (fun j => j = gb) wr).setCell (p := ⟨gb, i, none⟩) (.inl rfl) (.int .i64 x)
  exact ⟨h.kb.set i hi x, kp.own h.so (fun k hk => by simp [Value.ownBlock] at hk; have := h.ne; omega), h.ne⟩
theorem KX.setS (h : KX w0 n m a cap gb gs by_ sn wr) (i : Nat) (hi : i < n) (x : Bool) : KX w0 n m a cap gb gs by_ (upz sn i x) (wr.setCell ⟨gs, i, none⟩ (.bool x)) := by
  have hl := h.lt
  have hn := h.ne
  have kp := (Keep.refl (fun j => j = gs) wr).setCell (p := ⟨gs, i, none⟩) (.inl rfl) (.bool x)
  exact ⟨h.kb.keep kp (by omega) (by omega) (fun k hk => by omega), h.so.setRB i hi x, h.ne⟩
theorem KX.seen (h : KX w0 n m a cap gb gs by_ sn wr) {s2 : Nat → Bool} (e : ∀ v, sn v = s2 v) : KX w0 n m a cap gb gs by_ s2 wr := by
  have : sn = s2 := funext e
  subst this; exact h
/-- behind a store to both -/
theorem KX.both (h : KX w0 n m a cap gb gs by_ sn wr) (i : Nat) (hi : i < n) (x : Int) : KX w0 n m a cap gb gs (upz by_ i x) (upz sn i true) ((wr.setCell ⟨gs, i, none⟩ (.bool true)).setCell ⟨gb, i, none⟩ (.int .i64 x)) := (h.setS i hi true).setB i hi x
end
theorem own_first (w : World) (base : Nat) (e : TypeId) (x : Int) (hb : base ≤ w.heap.size) : Own encI 1 e (w.alloc (.cells #[.int .i64 x] e)) base (.slice (some ⟨w.heap.size, 0, none⟩) 1 1) [x] :=
  ⟨rfl, .inr ⟨w.heap.size, 1, #[.int .i64 x], rfl, hb, heap_alloc_new w _, Nat.le_refl _, by unfold maxLen; decide, rfl, rfl⟩⟩
theorem own_rowF {e : TypeId} {w : World} {base n c : Nat} {a : Option Addr} {xs : List Int} (h : Own encI 1 e w base (.slice a n c) xs) : Row encI 1 w w.heap.size a xs := by
  obtain ⟨a', cap, hv, hr, _⟩ := h.row lenI
  simp only [Value.slice.injEq] at hv
  rw [hv.1]
  exact hr
/-- places as numbers -/
def QL (l : List Nat) : List Int := l.map fun (v : Nat) => (v : Int)
theorem ql_len (l : List Nat) : (QL l).length = l.length := by simp [QL]
theorem ql_app (l : List Nat) (x : Nat) : QL (l ++ [x]) = QL l ++ [(x : Int)] := by simp [QL]
/-- seen: those in the list -/
def inL (O : List Nat) : Nat → Bool := fun x => decide (x ∈ O)
theorem inL_add (O : List Nat) (x : Nat) : ∀ v, upz (inL O) x true v = inL (O ++ [x]) v := by
  intro v
  unfold inL
  by_cases h : v = x
  · subst h; simp [upz_same]
  · rw [upz_other _ _ h]; simp [h]
theorem inL_one (s : Nat) : ∀ v, upz (fun _ => false) s true v = inL ([] ++ [s]) v := by
  intro v
  unfold inL
  by_cases h : v = s
  · subst h; simp [upz_same]
  · rw [upz_other _ _ h]; simp [h]
theorem nes_get (es : List Ed) (i : Nat) (h : i < es.length) : (nes es)[i]? = some ⟨es[i].u.toNat, es[i].v.toNat, es[i].c⟩ := by
  simp [nes, h]
theorem nes_len (es : List Ed) : (nes es).length = es.length := by simp [nes]
/-- what holds of the edges looked at from v: O is D ++ v :: R -/
structure SK (fl : Nat → Int) (E : List NE) (n s : Nat) (by_ : Nat → Int) (D : List Nat) (v : Nat) (R : List Nat) (j : Nat) : Prop where
  qt : QT fl E n s by_ (D ++ v :: R)
  dn : ∀ x ∈ D, QC fl E (D ++ v :: R) x E.length
  cu : QC fl E (D ++ v :: R) v j
theorem SK.add {fl : Nat → Int} {E : List NE} {n s : Nat} {by_ : Nat → Int} {D : List Nat} {v : Nat} {R : List Nat} {j : Nat} (h : SK fl E n s by_ D v R j) {x : Nat} {k : Int} (hx : x ∉ D ++ v :: R) (hxn : x < n) (hp : Par fl E (upz by_ x k) v x) : SK fl E n s (upz by_ x k) D v (R ++ [x]) j := by
  have e : D ++ v :: (R ++ [x]) = (D ++ v :: R) ++ [x] := by simp
  refine ⟨?_, fun y hy => ?_, ?_⟩
  · rw [e]; exact qt_add h.qt (by simp) hx hxn hp
  · rw [e]; exact qc_mono (h.dn y hy) _
  · rw [e]; exact qc_mono h.cu _
theorem SK.next {fl : Nat → Int} {E : List NE} {n s : Nat} {by_ : Nat → Int} {D : List Nat} {v : Nat} {R : List Nat} {j : Nat} (h : SK fl E n s by_ D v R j) {e : NE} (he : E[j]? = some e) (h1 : e.u = v → fl j < e.c → e.v ∈ D ++ v :: R) (h2 : e.v = v → 0 < fl j → e.u ∈ D ++ v :: R) : SK fl E n s by_ D v R (j + 1) :=
  ⟨h.qt, h.dn, qc_step h.cu he h1 h2⟩
theorem SK.all {fl : Nat → Int} {E : List NE} {n s : Nat} {by_ : Nat → Int} {D : List Nat} {v : Nat} {R : List Nat} (h : SK fl E n s by_ D v R E.length) : QT fl E n s by_ ((D ++ [v]) ++ R) ∧ ∀ x ∈ D ++ [v], QC fl E ((D ++ [v]) ++ R) x E.length := by
  have e : (D ++ [v]) ++ R = D ++ v :: R := by simp
  rw [e]
  refine ⟨h.qt, fun x hx => ?_⟩
  rcases List.mem_append.1 hx with h1 | h1
  · exact h.dn x h1
  · simp at h1; subst h1; exact h.cu
theorem QT.count {fl : Nat → Int} {E : List NE} {n s : Nat} {by_ : Nat → Int} {O : List Nat} (h : QT fl E n s by_ O) : O.length ≤ n := by
  have := List.Nodup.length_le_of_subset (l₁ := O) (l₂ := List.range n) h.nd (fun x hx => List.mem_range.2 (h.lt x hx))
  simpa using this
/-- the state, the queue, and the edge that is looked at, laid in block be -/
structure EX (w0 : World) (n m : Nat) (a : Option Addr) (cap gb gs be : Nat) (u vv : Nat) (ec : Int) (bq g off K c2 : Nat) (by_ : Nat → Int) (sn : Nat → Bool) (xs : List Int) (wr : World) : Prop where
  kx : KX w0 n m a cap gb gs by_ sn wr
  q : QOwn 3 wr bq g off K c2 xs
  e0 : wr.cell? ⟨be, 0, none⟩ = some (.int .i64 (u : Int))
  e1 : wr.cell? ⟨be, 1, none⟩ = some (.int .i64 (vv : Int))
  e2 : wr.cell? ⟨be, 2, none⟩ = some (.int .i64 ec)
section
variable {w0 wr w' : World} {n m : Nat} {a : Option Addr} {cap gb gs be u vv bq g off K c2 : Nat} {ec : Int} {by_ : Nat → Int} {sn : Nat → Bool} {xs : List Int}
theorem EX.stays (h : EX w0 n m a cap gb gs be u vv ec bq g off K c2 by_ sn xs wr) (hb : Below wr.heap.size wr w') : EX w0 n m a cap gb gs be u vv ec bq g off K c2 by_ sn xs w' :=
  ⟨h.kx.stays hb, h.q.stays hb, cu_below hb h.e0 (cell_lt h.e0), cu_below hb h.e1 (cell_lt h.e1), cu_below hb h.e2 (cell_lt h.e2)⟩
theorem EX.both (h : EX w0 n m a cap gb gs be u vv ec bq g off K c2 by_ sn xs wr) (i : Nat) (hi : i < n) (x : Int) (h1 : be ≠ gb) (h2 : be ≠ gs) (h3 : g ≠ gb) (h4 : g ≠ gs) : EX w0 n m a cap gb gs be u vv ec bq g off K c2 (upz by_ i x) (upz sn i true) xs ((wr.setCell ⟨gs, i, none⟩ (.bool true)).setCell ⟨gb, i, none⟩ (.int .i64 x)) := by
  have z1 := cell_lt h.e0
  exact ⟨h.kx.both i hi x, (h.q.setCell (by simp; omega) _).setCell (by simp; omega) _, cu_set (cu_set h.e0 (by simp; omega)) (by simp; omega), cu_set (cu_set h.e1 (by simp; omega)) (by simp; omega), cu_set (cu_set h.e2 (by simp; omega)) (by simp; omega)⟩
theorem EX.push (h : EX w0 n m a cap gb gs be u vv ec bq g off K c2 by_ sn xs wr) {g' off' K' c' : Nat} {ys : List Int} (hg : wr.grownBy w' (some g)) (q : QOwn 3 w' bq g' off' K' c' ys) (h1 : g ≠ gb) (h2 : g ≠ gs) (h3 : g ≠ be) (h4 : w0.heap.size < g) : EX w0 n m a cap gb gs be u vv ec bq g' off' K' c' by_ sn ys w' := by
  have kp : Keep (fun j => j = g) wr w' := (Keep.refl _ wr).grown hg (fun k hk => by cases hk; exact .inl rfl)
  exact ⟨h.kx.keep kp (by omega) (by omega) (by omega) (fun k hk => by omega), q, kp.cu h.e0 (by simp; omega), kp.cu h.e1 (by simp; omega), kp.cu h.e2 (by simp; omega)⟩
end
end Go.Proofs.Ytcehdpeeaogpiaa
