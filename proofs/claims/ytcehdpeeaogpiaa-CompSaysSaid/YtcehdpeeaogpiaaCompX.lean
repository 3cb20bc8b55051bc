/-
  The finder of components in memory; what its walk leans on. No condition.
-/
import Derived.Test.YtcehdpeeaogpiaaCompP
import Derived.Test.YtcehdpeeaogpiaaDijkO
import Derived.Test.YtcehdpeeaogpiaaQueue
namespace Go.Proofs.Ytcehdpeeaogpiaa
open Go.RowKit
set_option linter.unusedSimpArgs false
set_option linter.unusedVariables false
/-- bounds that the walk needs -/
structure TW (n : Nat) (s : TS) : Prop where
  lt : ∀ x ∈ s.st, x < n
  len : s.st.length ≤ s.nx
  nx : s.nx + whites n s ≤ n
def RecOk (n : Nat) (rec : TS → Nat → TS) : Prop := ∀ s u, TW n s → s.idx u = 0 → u < n → TW n (rec s u) ∧ s.st <+: (rec s u).st ∧ whites n (rec s u) ≤ whites n s
theorem tw_enter {n : Nat} {s : TS} {v : Nat} (h : TW n s) (h0 : s.idx v = 0) (hv : v < n) : TW n (tenter s v) ∧ s.st <+: (tenter s v).st ∧ whites n (tenter s v) < whites n s := by
  have hw := whites_enter hv h0
  refine ⟨⟨fun x hx => ?_, ?_, ?_⟩, ⟨[v], rfl⟩, hw⟩
  · rcases List.mem_append.1 hx with h1 | h1
    · exact h.lt x h1
    · simp at h1; subst h1; exact hv
  · show (s.st ++ [v]).length ≤ s.nx + 1
    have := h.len
    simp; omega
  · show s.nx + 1 + _ ≤ n
    have := h.nx
    omega
theorem tw_low {n : Nat} {s : TS} (h : TW n s) (v x : Nat) : TW n (tlow s v x) := ⟨h.lt, h.len, h.nx⟩
theorem tedge_tw {n : Nat} {rec : TS → Nat → TS} (hr : RecOk n rec) {s : TS} (h : TW n s) (v : Nat) {u : Nat} (hu : u < n) : TW n (tedge rec v s u) ∧ s.st <+: (tedge rec v s u).st ∧ whites n (tedge rec v s u) ≤ whites n s := by
  unfold tedge
  by_cases h0 : s.idx u = 0
  · rw [if_pos h0]
    obtain ⟨h1, h2, h3⟩ := hr s u h h0 hu
    exact ⟨tw_low h1 v _, h2, h3⟩
  · rw [if_neg h0]
    by_cases h1 : s.on u = true
    · rw [if_pos h1]
      exact ⟨tw_low h v _, List.prefix_rfl, Nat.le_refl _⟩
    · rw [if_neg h1]
      exact ⟨h, List.prefix_rfl, Nat.le_refl _⟩
theorem tfold_tw {n : Nat} {rec : TS → Nat → TS} (hr : RecOk n rec) (v : Nat) : ∀ (l : List Nat) (s : TS), TW n s → (∀ u ∈ l, u < n) → TW n (l.foldl (tedge rec v) s) ∧ s.st <+: (l.foldl (tedge rec v) s).st ∧ whites n (l.foldl (tedge rec v) s) ≤ whites n s
  | [], s, h, _ => ⟨h, List.prefix_rfl, Nat.le_refl _⟩
  | u :: r, s, h, hl => by
    obtain ⟨h1, h2, h3⟩ := tedge_tw hr h v (hl u (by simp))
    obtain ⟨k1, k2, k3⟩ := tfold_tw hr v r _ h1 (fun x hx => hl x (by simp [hx]))
    exact ⟨k1, h2.trans k2, Nat.le_trans k3 h3⟩
theorem findK_ge {st : List Nat} {v i : Nat} (hi : st[i]? = some v) : ∀ k, i < k → i ≤ findK st v k ∧ findK st v k < k
  | 0, h => by omega
  | k + 1, h => by
    rw [findK]
    split
    · omega
    · rename_i hne
      have hik : i ≠ k := fun e => hne (e ▸ hi)
      have := findK_ge hi k (by omega)
      omega
theorem findK_step {st : List Nat} {v k : Nat} (h : st[k]? ≠ some v) : findK st v (k + 1) = findK st v k := by rw [findK, if_neg h]
theorem findK_hit {st : List Nat} {v k : Nat} (h : st[k]? = some v) : findK st v (k + 1) = k := by rw [findK, if_pos h]
theorem tfin_tw {n : Nat} {s0 s : TS} {v : Nat} (h : TW n s) (hp : s0.st ++ [v] <+: s.st) : TW n (tfin s v) ∧ s0.st <+: (tfin s v).st ∧ whites n (tfin s v) ≤ whites n s := by
  unfold tfin
  have hp0 : s0.st <+: s.st := List.IsPrefix.trans ⟨[v], rfl⟩ hp
  split
  · exact ⟨h, hp0, Nat.le_refl _⟩
  · obtain ⟨r, hr⟩ := hp
    have hi : s.st[s0.st.length]? = some v := by rw [← hr]; simp
    have hl : s0.st.length < s.st.length := (List.getElem?_eq_some_iff.1 hi).1
    have hk := findK_ge hi s.st.length hl
    refine ⟨⟨fun x hx => h.lt x (List.mem_of_mem_take hx), ?_, h.nx⟩, ?_, Nat.le_refl _⟩
    · show (s.st.take _).length ≤ s.nx
      have := h.len
      simp; omega
    · show s0.st <+: s.st.take _
      obtain ⟨q, hq⟩ := hp0
      have hk1 := hk.1
      generalize findK s.st v s.st.length = K at hk1 ⊢
      rw [← hq, List.take_append, List.take_of_length_le hk1]
      exact ⟨_, rfl⟩
theorem tvisit_tw {E : List NE} {n : Nat} (hE : ∀ e ∈ E, e.u < n ∧ e.v < n) : ∀ k, RecOk n (tvisit E k)
  | 0 => fun s u h _ _ => ⟨h, List.prefix_rfl, Nat.le_refl _⟩
  | k + 1 => fun s v h h0 hv => by
    obtain ⟨h1, h2, h3⟩ := tw_enter h h0 hv
    obtain ⟨k1, k2, k3⟩ := tfold_tw (tvisit_tw hE k) v (outV E v) _ h1 (fun u hu => by obtain ⟨e, e1, e2, e3⟩ := outV_mem.1 hu; rw [← e3]; exact (hE e e1).2)
    obtain ⟨m1, m2, m3⟩ := tfin_tw (s0 := s) k1 k2
    exact ⟨m1, m2, Nat.le_trans m3 (Nat.le_trans k3 (Nat.le_of_lt h3))⟩
theorem out_todo {n : Nat} {es : List Ed} (hR : Right n es) (v : Nat) : outV (nes es) v = (todoOf es v 0).map fun e => e.v := by
  have key : ∀ k, k ≤ es.length → (outIdx es v k).map (edAt es) = (nes (es.take k)).filter fun e => decide (e.u = v) := by
    intro k
    induction k with
    | zero => intro _; simp [outIdx, nes]
    | succ k ih =>
      intro hk
      obtain ⟨u, x, h1, h2, h3, h4, h5⟩ := right_edgeK hR k (by omega)
      rw [outIdx_succ, List.map_append, ih (by omega), h5.2.2, List.filter_append]
      congr 1
      have e : (es.map (·.u)).getD k (-1) = (u : Int) := by simp [List.getD, List.getElem?_eq_getElem (show k < es.length by omega), h1]
      rw [e]
      by_cases h : u = v
      · subst h
        rw [if_pos rfl]
        simp [edAt_is (show k < es.length by omega) h1 h2]
      · rw [if_neg (by omega)]
        simp [h]
  have := key es.length (Nat.le_refl _)
  rw [List.take_length] at this
  unfold todoOf outV
  rw [List.drop_zero, this]
/-- numbers of a list of places -/
def NL (l : List Nat) : List Int := l.map fun (v : Nat) => (v : Int)
theorem nl_len (l : List Nat) : (NL l).length = l.length := by simp [NL]
theorem nl_app (l : List Nat) (x : Nat) : NL (l ++ [x]) = NL l ++ [(x : Int)] := by simp [NL]
theorem Own.atRBc {e : TypeId} {w : World} {base g n c : Nat} {f : Nat → Bool} (h : Own encB 1 e w base (.slice (some ⟨g, 0, none⟩) n c) (RW n f)) (i : Nat) (hi : i < n) : w.cell? ⟨g, i, none⟩ = some (.bool (f i)) := by
  have := h.getB i (by rw [rw_len]; exact hi)
  rwa [rw_get] at this
theorem Own.setRBc {e : TypeId} {w : World} {base g n c : Nat} {f : Nat → Bool} (h : Own encB 1 e w base (.slice (some ⟨g, 0, none⟩) n c) (RW n f)) (i : Nat) (hi : i < n) (x : Bool) : Own encB 1 e (w.setCell ⟨g, i, none⟩ (.bool x)) base (.slice (some ⟨g, 0, none⟩) n c) (RW n (upz f i x)) := by
  have := h.putB i (by rw [rw_len]; exact hi) x
  rwa [rw_set] at this
/-- places' numbers as whole numbers -/
def ZI (f : Nat → Nat) : Nat → Int := fun v => (f v : Int)
theorem zi_upz (f : Nat → Nat) (v x : Nat) : upz (ZI f) v (x : Int) = ZI (upz f v x) := by
  funext u; unfold ZI upz; split <;> rfl
theorem Keep.then2 {S T : Nat → Prop} {a b c : World} (h : Keep S a b) (k : Keep T b c) (hT : ∀ k, T k → S k ∨ a.heap.size ≤ k) : Keep S a c :=
  ⟨k.os.trans h.os, k.tape.trans h.tape, k.output.trans h.output, Nat.le_trans h.size k.size, fun i hi hs => (k.block i (Nat.lt_of_lt_of_le hi h.size) (fun ht => by
    rcases hT i ht with h1 | h1
    · exact hs h1
    · omega)).trans (h.block i hi hs)⟩
def CXb (fb gi gl gt gm : Nat) (j : Nat) : Prop := j = fb ∨ j = gi ∨ j = gl ∨ j = gt ∨ j = gm
/-- fb: the finder; gi, gl, gt, gm: numbers, lows, on, least; sv: the stack; wS: the world right behind their making -/
structure CX (base n : Nat) (a : Option Addr) (m cap fb O gi gl gt gm : Nat) (sv : Value) (s : TS) (wS wr : World) : Prop where
  c0 : wr.cell? ⟨fb, 0, none⟩ = some (.int .i64 (n : Int))
  c1 : wr.cell? ⟨fb, 1, none⟩ = some (.slice a m cap)
  c2 : wr.cell? ⟨fb, 2, none⟩ = some (.slice (some ⟨O, 0, none⟩) n n)
  c3 : wr.cell? ⟨fb, 3, none⟩ = some (.slice (some ⟨gi, 0, none⟩) n n)
  c4 : wr.cell? ⟨fb, 4, none⟩ = some (.slice (some ⟨gl, 0, none⟩) n n)
  c5 : wr.cell? ⟨fb, 5, none⟩ = some sv
  c6 : wr.cell? ⟨fb, 6, none⟩ = some (.slice (some ⟨gt, 0, none⟩) n n)
  c7 : wr.cell? ⟨fb, 7, none⟩ = some (.int .i64 (s.nx : Int))
  c8 : wr.cell? ⟨fb, 8, none⟩ = some (.slice (some ⟨gm, 0, none⟩) n n)
  fz : ∀ o, wr.frozen? ⟨fb, o, none⟩ = false
  idx : Own encI 1 3 wr base (.slice (some ⟨gi, 0, none⟩) n n) (LI n (ZI s.idx))
  low : Own encI 1 3 wr base (.slice (some ⟨gl, 0, none⟩) n n) (LI n (ZI s.low))
  on : Own encB 1 4 wr base (.slice (some ⟨gt, 0, none⟩) n n) (RW n s.on)
  lst : Own encI 1 3 wr base (.slice (some ⟨gm, 0, none⟩) n n) (LI n (ZI s.lst))
  stk : Own encI 1 3 wr wS.heap.size sv (NL s.st)
  keep : Keep (CXb fb gi gl gt gm) wS wr
  lt : fb < wS.heap.size ∧ gi < wS.heap.size ∧ gl < wS.heap.size ∧ gt < wS.heap.size ∧ gm < wS.heap.size
  ne : fb ≠ gi ∧ fb ≠ gl ∧ fb ≠ gt ∧ fb ≠ gm ∧ gi ≠ gl ∧ gi ≠ gt ∧ gi ≠ gm ∧ gl ≠ gt ∧ gl ≠ gm ∧ gt ≠ gm
section
variable {base n m cap fb O gi gl gt gm : Nat} {a : Option Addr} {sv : Value} {s : TS} {wS wr w' : World}
theorem CX.other (h : CX base n a m cap fb O gi gl gt gm sv s wS wr) {T : Nat → Prop} (kp : Keep T wr w') (hT : ∀ j, T j → wS.heap.size ≤ j ∧ sv.ownBlock ≠ some j) : CX base n a m cap fb O gi gl gt gm sv s wS w' := by
  have hl := h.lt
  have hz := h.keep.size
  have hn : ∀ j, j < wS.heap.size → ¬ T j := fun j hj hc => by have := (hT j hc).1; omega
  exact ⟨kp.cu h.c0 (hn fb (by omega)), kp.cu h.c1 (hn fb (by omega)), kp.cu h.c2 (hn fb (by omega)), kp.cu h.c3 (hn fb (by omega)), kp.cu h.c4 (hn fb (by omega)), kp.cu h.c5 (hn fb (by omega)), kp.cu h.c6 (hn fb (by omega)), kp.cu h.c7 (hn fb (by omega)), kp.cu h.c8 (hn fb (by omega)),
    fun o => (kp.frozen (p := ⟨fb, o, none⟩) (by simp; omega) (hn fb (by omega))).trans (h.fz o),
    kp.own h.idx (fun j hj => hn j (by simp [Value.ownBlock] at hj; omega)), kp.own h.low (fun j hj => hn j (by simp [Value.ownBlock] at hj; omega)), kp.own h.on (fun j hj => hn j (by simp [Value.ownBlock] at hj; omega)), kp.own h.lst (fun j hj => hn j (by simp [Value.ownBlock] at hj; omega)),
    kp.own h.stk (fun j hj hc => (hT j hc).2 hj), h.keep.then2 kp (fun j hj => .inr (hT j hj).1), h.lt, h.ne⟩
theorem CX.stays (h : CX base n a m cap fb O gi gl gt gm sv s wS wr) (b : Below wr.heap.size wr w') : CX base n a m cap fb O gi gl gt gm sv s wS w' :=
  h.other (T := fun _ => False) (Keep.new b) (fun j hj => hj.elim)
/-- stores -/
theorem CX.setI (h : CX base n a m cap fb O gi gl gt gm sv s wS wr) (u : Nat) (hu : u < n) (x : Nat) : CX base n a m cap fb O gi gl gt gm sv { s with idx := upz s.idx u x } wS (wr.setCell ⟨gi, u, none⟩ (.int .i64 (x : Int))) := by
  have hl := h.lt
  have hn := h.ne
  have hs : ∀ j, sv.ownBlock = some j → wS.heap.size ≤ j := fun j hj => (h.stk.block_lt j hj).1
  have kp := (Keep.refl (fun j => j = gi) wr).setCell (p := ⟨gi, u, none⟩) (.inl rfl) (.int .i64 (x : Int))
  have hi := h.idx.setI u hu (x : Int)
  rw [zi_upz] at hi
  exact ⟨kp.cu h.c0 (by simp; omega), kp.cu h.c1 (by simp; omega), kp.cu h.c2 (by simp; omega), kp.cu h.c3 (by simp; omega), kp.cu h.c4 (by simp; omega), kp.cu h.c5 (by simp; omega), kp.cu h.c6 (by simp; omega), kp.cu h.c7 (by simp; omega), kp.cu h.c8 (by simp; omega), fun o => fu_set (h.fz o),
    hi, kp.own h.low (fun j hj => by simp [Value.ownBlock] at hj; omega), kp.own h.on (fun j hj => by simp [Value.ownBlock] at hj; omega), kp.own h.lst (fun j hj => by simp [Value.ownBlock] at hj; omega), kp.own h.stk (fun j hj => by have := hs j hj; omega), h.keep.setCell (.inl (.inr (.inl rfl))) _, h.lt, h.ne⟩
theorem CX.setL (h : CX base n a m cap fb O gi gl gt gm sv s wS wr) (u : Nat) (hu : u < n) (x : Nat) : CX base n a m cap fb O gi gl gt gm sv { s with low := upz s.low u x } wS (wr.setCell ⟨gl, u, none⟩ (.int .i64 (x : Int))) := by
  have hl := h.lt
  have hn := h.ne
  have hs : ∀ j, sv.ownBlock = some j → wS.heap.size ≤ j := fun j hj => (h.stk.block_lt j hj).1
  have kp := (Keep.refl (fun j => j = gl) wr).setCell (p := ⟨gl, u, none⟩) (.inl rfl) (.int .i64 (x : Int))
  have hi := h.low.setI u hu (x : Int)
  rw [zi_upz] at hi
  exact ⟨kp.cu h.c0 (by simp; omega), kp.cu h.c1 (by simp; omega), kp.cu h.c2 (by simp; omega), kp.cu h.c3 (by simp; omega), kp.cu h.c4 (by simp; omega), kp.cu h.c5 (by simp; omega), kp.cu h.c6 (by simp; omega), kp.cu h.c7 (by simp; omega), kp.cu h.c8 (by simp; omega), fun o => fu_set (h.fz o),
    kp.own h.idx (fun j hj => by simp [Value.ownBlock] at hj; omega), hi, kp.own h.on (fun j hj => by simp [Value.ownBlock] at hj; omega), kp.own h.lst (fun j hj => by simp [Value.ownBlock] at hj; omega), kp.own h.stk (fun j hj => by have := hs j hj; omega), h.keep.setCell (.inl (.inr (.inr (.inl rfl)))) _, h.lt, h.ne⟩
theorem CX.setO (h : CX base n a m cap fb O gi gl gt gm sv s wS wr) (u : Nat) (hu : u < n) (x : Bool) : CX base n a m cap fb O gi gl gt gm sv { s with on := upz s.on u x } wS (wr.setCell ⟨gt, u, none⟩ (.bool x)) := by
  have hl := h.lt
  have hn := h.ne
  have hs : ∀ j, sv.ownBlock = some j → wS.heap.size ≤ j := fun j hj => (h.stk.block_lt j hj).1
  have kp := (Keep.refl (fun j => j = gt) wr).setCell (p := ⟨gt, u, none⟩) (.inl rfl) (.bool x)
  exact ⟨kp.cu h.c0 (by simp; omega), kp.cu h.c1 (by simp; omega), kp.cu h.c2 (by simp; omega), kp.cu h.c3 (by simp; omega), kp.cu h.c4 (by simp; omega), kp.cu h.c5 (by simp; omega), kp.cu h.c6 (by simp; omega), kp.cu h.c7 (by simp; omega), kp.cu h.c8 (by simp; omega), fun o => fu_set (h.fz o),
    kp.own h.idx (fun j hj => by simp [Value.ownBlock] at hj; omega), kp.own h.low (fun j hj => by simp [Value.ownBlock] at hj; omega), h.on.setRBc u hu x, kp.own h.lst (fun j hj => by simp [Value.ownBlock] at hj; omega), kp.own h.stk (fun j hj => by have := hs j hj; omega), h.keep.setCell (.inl (.inr (.inr (.inr (.inl rfl))))) _, h.lt, h.ne⟩
theorem CX.setM (h : CX base n a m cap fb O gi gl gt gm sv s wS wr) (u : Nat) (hu : u < n) (x : Nat) : CX base n a m cap fb O gi gl gt gm sv { s with lst := upz s.lst u x } wS (wr.setCell ⟨gm, u, none⟩ (.int .i64 (x : Int))) := by
  have hl := h.lt
  have hn := h.ne
  have hs : ∀ j, sv.ownBlock = some j → wS.heap.size ≤ j := fun j hj => (h.stk.block_lt j hj).1
  have kp := (Keep.refl (fun j => j = gm) wr).setCell (p := ⟨gm, u, none⟩) (.inl rfl) (.int .i64 (x : Int))
  have hi := h.lst.setI u hu (x : Int)
  rw [zi_upz] at hi
  exact ⟨kp.cu h.c0 (by simp; omega), kp.cu h.c1 (by simp; omega), kp.cu h.c2 (by simp; omega), kp.cu h.c3 (by simp; omega), kp.cu h.c4 (by simp; omega), kp.cu h.c5 (by simp; omega), kp.cu h.c6 (by simp; omega), kp.cu h.c7 (by simp; omega), kp.cu h.c8 (by simp; omega), fun o => fu_set (h.fz o),
    kp.own h.idx (fun j hj => by simp [Value.ownBlock] at hj; omega), kp.own h.low (fun j hj => by simp [Value.ownBlock] at hj; omega), kp.own h.on (fun j hj => by simp [Value.ownBlock] at hj; omega), hi, kp.own h.stk (fun j hj => by have := hs j hj; omega), h.keep.setCell (.inl (.inr (.inr (.inr (.inr rfl))))) _, h.lt, h.ne⟩
theorem CX.setN (h : CX base n a m cap fb O gi gl gt gm sv s wS wr) (x : Nat) : CX base n a m cap fb O gi gl gt gm sv { s with nx := x } wS (wr.setCell ⟨fb, 7, none⟩ (.int .i64 (x : Int))) := by
  have hl := h.lt
  have hn := h.ne
  have hs : ∀ j, sv.ownBlock = some j → wS.heap.size ≤ j := fun j hj => (h.stk.block_lt j hj).1
  have kp := (Keep.refl (fun j => j = fb) wr).setCell (p := ⟨fb, 7, none⟩) (.inl rfl) (.int .i64 (x : Int))
  exact ⟨cu_set_off h.c0 (by omega), cu_set_off h.c1 (by omega), cu_set_off h.c2 (by omega), cu_set_off h.c3 (by omega), cu_set_off h.c4 (by omega), cu_set_off h.c5 (by omega), cu_set_off h.c6 (by omega), World.cell?_setCell_same _ _ _ h.c7, cu_set_off h.c8 (by omega), fun o => fu_set (h.fz o),
    kp.own h.idx (fun j hj => by simp [Value.ownBlock] at hj; omega), kp.own h.low (fun j hj => by simp [Value.ownBlock] at hj; omega), kp.own h.on (fun j hj => by simp [Value.ownBlock] at hj; omega), kp.own h.lst (fun j hj => by simp [Value.ownBlock] at hj; omega), kp.own h.stk (fun j hj => by have := hs j hj; omega), h.keep.setCell (.inl (.inl rfl)) _, h.lt, h.ne⟩
/-- another stack, stored -/
theorem CX.setS (h : CX base n a m cap fb O gi gl gt gm sv s wS wr) (sv' : Value) (l : List Nat) (T : Nat → Prop) (kp : Keep T wr w') (hT : ∀ j, T j → wS.heap.size ≤ j) (own : Own encI 1 3 w' wS.heap.size sv' (NL l)) :
    CX base n a m cap fb O gi gl gt gm sv' { s with st := l } wS (w'.setCell ⟨fb, 5, none⟩ sv') := by
  have hl := h.lt
  have hne := h.ne
  have hz := h.keep.size
  have hn : ∀ j, j < wS.heap.size → ¬ T j := fun j hj hc => by have := hT j hc; omega
  have hs : ∀ j, sv'.ownBlock = some j → wS.heap.size ≤ j := fun j hj => (own.block_lt j hj).1
  have kq := (Keep.refl (fun j => j = fb) w').setCell (p := ⟨fb, 5, none⟩) (.inl rfl) sv'
  have c5' := kp.cu h.c5 (hn fb (by omega))
  exact ⟨cu_set_off (kp.cu h.c0 (hn fb (by omega))) (by omega), cu_set_off (kp.cu h.c1 (hn fb (by omega))) (by omega), cu_set_off (kp.cu h.c2 (hn fb (by omega))) (by omega), cu_set_off (kp.cu h.c3 (hn fb (by omega))) (by omega), cu_set_off (kp.cu h.c4 (hn fb (by omega))) (by omega), World.cell?_setCell_same _ _ _ c5', cu_set_off (kp.cu h.c6 (hn fb (by omega))) (by omega), cu_set_off (kp.cu h.c7 (hn fb (by omega))) (by omega), cu_set_off (kp.cu h.c8 (hn fb (by omega))) (by omega),
    fun o => fu_set ((kp.frozen (p := ⟨fb, o, none⟩) (by simp; omega) (hn fb (by omega))).trans (h.fz o)),
    kq.own (kp.own h.idx (fun j hj => hn j (by simp [Value.ownBlock] at hj; omega))) (fun j hj => by simp [Value.ownBlock] at hj; omega), kq.own (kp.own h.low (fun j hj => hn j (by simp [Value.ownBlock] at hj; omega))) (fun j hj => by simp [Value.ownBlock] at hj; omega), kq.own (kp.own h.on (fun j hj => hn j (by simp [Value.ownBlock] at hj; omega))) (fun j hj => by simp [Value.ownBlock] at hj; omega), kq.own (kp.own h.lst (fun j hj => hn j (by simp [Value.ownBlock] at hj; omega))) (fun j hj => by simp [Value.ownBlock] at hj; omega),
    kq.own own (fun j hj => by have := hs j hj; omega), (h.keep.then2 kp (fun j hj => .inr (hT j hj))).setCell (.inl (.inl rfl)) _, h.lt, h.ne⟩
theorem CX.same (h : CX base n a m cap fb O gi gl gt gm sv s wS wr) {t : TS} (e : s = t) : CX base n a m cap fb O gi gl gt gm sv t wS wr := e ▸ h
end
/-- what stands all along: the edges, and each place's own -/
structure CE (n m cap fb O gi gl gt gm B : Nat) (a : Option Addr) (es : List Ed) (wS : World) : Prop where
  ed : ∀ w', Keep (CXb fb gi gl gt gm) wS w' → Row encE 3 w' B a es
  row : ∀ v, v < n → ∃ av cv, ∀ w', Keep (CXb fb gi gl gt gm) wS w' → w'.cell? ⟨O, v, none⟩ = some (.slice av (outIdx es v es.length).length cv) ∧ Row encI 1 w' wS.heap.size av (outIdx es v es.length)
  lt : B ≤ wS.heap.size ∧ O < wS.heap.size
  nO : ¬ CXb fb gi gl gt gm O
end Go.Proofs.Ytcehdpeeaogpiaa
