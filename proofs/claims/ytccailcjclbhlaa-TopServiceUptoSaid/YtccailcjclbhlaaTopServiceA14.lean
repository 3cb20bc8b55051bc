/-
  A part of the proof of ServePlays: SvB SvC SvD
-/
import Derived.Test.YtccailcjclbhlaaTopServiceA13
import Derived.Test.YtccailcjclbhlaaTopServiceA5
/-! serve's Ask and Drop: what they answer and leave. Conditions: at most 1048576 weights. -/
namespace Go.Proofs.Ytccailcjclbhlaa
open Go.RowKit
set_option linter.unusedSimpArgs false
set_option linter.unusedVariables false
theorem ix_0 (p0 p1 p2 p3 p4 p5 : Value) (w : World) : (Instr.index 63 (.agg #[p0, p1, p2, p3, p4, p5]) (.int .i64 0)).run Try.prog w = .ok p0 w := by kernel_rfl
theorem ix_1 (p0 p1 p2 p3 p4 p5 : Value) (w : World) : (Instr.index 63 (.agg #[p0, p1, p2, p3, p4, p5]) (.int .i64 1)).run Try.prog w = .ok p1 w := by kernel_rfl
theorem ix_2 (p0 p1 p2 p3 p4 p5 : Value) (w : World) : (Instr.index 63 (.agg #[p0, p1, p2, p3, p4, p5]) (.int .i64 2)).run Try.prog w = .ok p2 w := by kernel_rfl
theorem ix_3 (p0 p1 p2 p3 p4 p5 : Value) (w : World) : (Instr.index 63 (.agg #[p0, p1, p2, p3, p4, p5]) (.int .i64 3)).run Try.prog w = .ok p3 w := by kernel_rfl
theorem ix_4 (p0 p1 p2 p3 p4 p5 : Value) (w : World) : (Instr.index 63 (.agg #[p0, p1, p2, p3, p4, p5]) (.int .i64 4)).run Try.prog w = .ok p4 w := by kernel_rfl
theorem ix_5 (p0 p1 p2 p3 p4 p5 : Value) (w : World) : (Instr.index 63 (.agg #[p0, p1, p2, p3, p4, p5]) (.int .i64 5)).run Try.prog w = .ok p5 w := by kernel_rfl
/-- where a slot points to -/
def adr (x : Option Nat) : Option Addr := x.map fun b => ⟨b, 0, none⟩
theorem ix_at (xs : Nat → Option Nat) (k : Nat) (hk : k < 6) (w : World) : (Instr.index 63 (.agg #[.pointer (adr (xs 0)), .pointer (adr (xs 1)), .pointer (adr (xs 2)), .pointer (adr (xs 3)), .pointer (adr (xs 4)), .pointer (adr (xs 5))]) (.int .i64 (k : Int))).run Try.prog w = .ok (.pointer (adr (xs k))) w := by
  match k, hk with
  | 0, _ => exact ix_0 _ _ _ _ _ _ w
  | 1, _ => exact ix_1 _ _ _ _ _ _ w
  | 2, _ => exact ix_2 _ _ _ _ _ _ w
  | 3, _ => exact ix_3 _ _ _ _ _ _ w
  | 4, _ => exact ix_4 _ _ _ _ _ _ w
  | 5, _ => exact ix_5 _ _ _ _ _ _ w
theorem at_out {σ : Sv} {id : Int} (h : id < 0 ∨ 6 ≤ id) : σ.at id = none := by unfold Sv.at; rw [if_neg (by omega)]
theorem at_in {σ : Sv} {k : Nat} (h : k < 6) : σ.at (k : Int) = σ.sl k := by unfold Sv.at; rw [if_pos (by omega)]; rfl
theorem PSx.noneAt {σ : Sv} {ef : Nat → List Ed} {svb gc : Nat} {ga : Option Addr} {xs : Nat → Option Nat} {W N : Nat → Nat → Prop} {w : World} (h : PSx σ ef svb ga gc xs W N w) {k : Nat} (hk : k < 6) (e : σ.sl k = none) : xs k = none := by
  rcases h.sl k hk with ⟨h1, h2⟩ | ⟨q, x, h1, h2, h3⟩
  · exact h2
  · rw [e] at h1; cases h1
theorem PSx.someAt {σ : Sv} {ef : Nat → List Ed} {svb gc : Nat} {ga : Option Addr} {xs : Nat → Option Nat} {W N : Nat → Nat → Prop} {w : World} (h : PSx σ ef svb ga gc xs W N w) {k : Nat} (hk : k < 6) {q : Sq} (e : σ.sl k = some q) : ∃ x, xs k = some x ∧ PQ (ef k) σ.cs.length q x (W k) (N k) w := by
  rcases h.sl k hk with ⟨h1, h2⟩ | ⟨q', x, h1, h2, h3⟩
  · rw [e] at h1; cases h1
  · rw [e] at h1; cases h1; exact ⟨x, h2, h3⟩
theorem upz_self {α : Type} (f : Nat → α) (k : Nat) : upz f k (f k) = f := by funext v; unfold upz; split <;> simp_all
/-- what a method leaves -/
def PLeft (σ' : Sv) (svb : Nat) (P : Nat → Prop) (w w' : World) : Prop := PSv σ' svb (grown P w w') w' ∧ Keep P w w'
theorem PLeft.same {σ : Sv} {svb : Nat} {P : Nat → Prop} {w w' : World} (h : PSv σ svb P w) (hb : Below w.heap.size w w') : PLeft σ svb P w w' := by
  have h1 := h.stays hb
  refine ⟨⟨h1.1, fun j hj => ?_, ?_⟩, Keep.new hb⟩
  · rcases hj with hj | hj
    · exact h1.2.1 j hj
    · exact hj.2
  · obtain ⟨_, _, ga, gc, xs, W, N, h3, h4⟩ := h1
    exact ⟨ga, gc, xs, W, N, h3, fun i j q => .inl (h4 i j q)⟩
/-- a request that the program has taken up -/
theorem PSv.put {σ : Sv} {svb : Nat} {P : Nat → Prop} {w w3 w' : World} (hP : PSv σ svb P w) (hb : Below w.heap.size w w3) {k f t : Nat} (hk : k < 6) (hf : f < σ.cs.length) (ht : t < σ.cs.length) {ws : List P2} (h1 : wsErr ws = 0) {b0 : Nat} (hw0 : w.heap.size ≤ b0) {aw : Option Addr} {m cw sb : Nat} {A C : Nat → Prop} (hm : ws.length = m) (own : Own encP 2 49 w3 b0 (.slice aw m cw) ws) (hO : AObj σ.cs.length t σ.es hZ ws (sBegin σ.es σ.cs.length f t ws) sb A C w3) (hA : ∀ j, A j ∨ C j → w.heap.size ≤ j) (hC : ∀ j, C j → j < w3.heap.size) (hAC : ∀ j, A j → ¬ C j) (hAw : ∀ j, A j ∨ C j → (Value.slice aw m cw).ownBlock ≠ some j)
    (hw' : w' = (w3.setCell ⟨svb, 3 + k, none⟩ (.pointer (some ⟨w3.heap.size, 0, none⟩))).alloc (.cells #[.pointer (some ⟨sb, 0, none⟩), .int .i64 (f : Int), .int .i64 (t : Int), .slice aw m cw, .int .i64 0, .int .i64 0, .slice none 0 0, .int .i64 0, .int .i64 0, .bool false] 76)) : PLeft (σ.put k f t ws) svb P w w' := by
  subst hm
  obtain ⟨hok, hlt, ga, gc, xs, W, N, hX, hin⟩ := hP
  have hX3 := hX.stays hb
  have hz := hb.size
  have hs0 : svb < w.heap.size := cell_lt hX.c0
  obtain ⟨w4, h4⟩ : ∃ w4, w4 = w3.alloc (.cells #[.pointer (some ⟨sb, 0, none⟩), .int .i64 (f : Int), .int .i64 (t : Int), .slice aw ws.length cw, .int .i64 0, .int .i64 0, .slice none 0 0, .int .i64 0, .int .i64 0, .bool false] 76) := ⟨_, rfl⟩
  rw [← World.setCell_alloc_past _ _ _ _ (by omega), ← h4] at hw'
  have hb4 : Below w3.heap.size w3 w4 := by rw [h4]; exact (Below.refl _ _).alloc (Nat.le_refl _) _
  have hz4 : w4.heap.size = w3.heap.size + 1 := by rw [h4]; simp
  have kp4 : Keep (fun j => j = svb) w3 w4 := Keep.new hb4
  have kp := kp4.setCell (p := ⟨svb, 3 + k, none⟩) (.inl rfl) (.pointer (some ⟨w3.heap.size, 0, none⟩))
  rw [← hw'] at kp
  have hzw : w'.heap.size = w4.heap.size := by rw [hw']; simp
  have kq : Keep (fun j => j = svb) w4 w' := by rw [hw']; exact (Keep.refl (fun j => j = svb) w4).setCell (p := ⟨svb, 3 + k, none⟩) (.inl rfl) _
  have hne : ¬ (w3.heap.size = svb) := by omega
  have hOb := own.block_lt
  obtain ⟨a2, c2, e2, hrow, _⟩ := own.row lenP
  cases e2
  have hQ : PQc σ.es σ.cs.length ⟨f, t, ws, sBegin σ.es σ.cs.length f t ws, none⟩ w3.heap.size sb cw aw rv0 A C (fun j => j = w3.heap.size ∨ A j) (fun j => C j ∨ (Value.slice aw ws.length cw).ownBlock = some j) w' := by
    refine ⟨kq.cu (by rw [h4]; simp [go_sem, rv0]) hne, kq.cu (by rw [h4]; simp [go_sem, rv0]) hne, kq.cu (by rw [h4]; simp [go_sem, rv0]) hne, kq.cu (by rw [h4]; simp [go_sem, rv0]) hne, kq.cu (by rw [h4]; simp [go_sem, rv0]) hne, kq.cu (by rw [h4]; simp [go_sem, rv0]) hne, kq.cu (by rw [h4]; simp [go_sem, rv0]) hne, kq.cu (by rw [h4]; simp [go_sem, rv0]) hne, kq.cu (by rw [h4]; simp [go_sem, rv0]) hne, kq.cu (by rw [h4]; simp [go_sem, rv0]) hne, fun o => ?_, hO.keep kp (fun j hj e => ?_), ((row_keep hrow kp (fun b o e e2 => ?_)).mono kp.size), rfl, .inl rfl, fun h => ?_, fun j h => .inr h, fun j h => .inl h, fun j o e => .inr (by rw [e]; rfl), fun j e => by cases e⟩
    · rw [hw']; exact fu_set (by rw [h4]; simp [go_sem])
    · have := hA j hj; omega
    · subst e2; have := hOb b (by rw [e]; rfl); omega
    · have := hO.lt h; omega
  have kpw : Keep (fun j => j = svb) w w' := (Keep.new hb).trans kp
  have hbw : Below w.heap.size w w4 := hb.trans (hb4.mono hz)
  have hslot := hX.slot hk kpw (fun j e => .inl e) (fun o ho v hv => by rw [hw']; exact cu_set_off (cu_below hbw hv (cell_lt hv)) (fun e => ho e.symm)) (x := some w3.heap.size) (by rw [hw']; exact World.cell?_setCell_same' _ _ _ (by rw [cu_below hbw (hX.cx k hk) hs0]; rfl)) (fun o => by rw [hw']; exact fu_set (fu_below hbw (hX.fz o) hs0)) (some ⟨f, t, ws, sBegin σ.es σ.cs.length f t ws, none⟩) (ef := fun _ => σ.es) σ.es (W' := fun j => j = w3.heap.size ∨ A j) (N' := fun j => C j ∨ (Value.slice aw ws.length cw).ownBlock = some j) (fun j h => .inr ?_) (fun j h => .inr (.inr ?_)) (fun j h h2 => ?_) (.inr ⟨_, _, rfl, rfl, sb, cw, aw, rv0, A, C, hQ⟩)
  · rw [show upz (fun _ => σ.es) k σ.es = (fun _ => σ.es) from upz_self (fun _ => σ.es) k] at hslot
    refine ⟨⟨⟨hok.g, hok.u, fun i q' hi hq' => ?_⟩, fun j hj => ?_, ga, gc, _, _, _, hslot, fun i j q => ?_⟩, kpw.mono (fun j _ e => by rw [e]; exact hin 6 svb (.inl hX.own))⟩
    · by_cases e : i = k
      · subst e
        rw [show (σ.put i f t ws).sl = upz σ.sl i (some (newQ σ.es σ.cs.length f t ws)) from rfl, upz_same] at hq'
        cases hq'
        exact ⟨hf, ht, h1, fun r h => by cases h⟩
      · rw [show (σ.put k f t ws).sl = upz σ.sl k (some (newQ σ.es σ.cs.length f t ws)) from rfl, upz_other _ _ e] at hq'
        exact hok.q i q' hi hq'
    · rcases hj with hj | hj
      · have := hlt j hj; omega
      · exact hj.2
    · by_cases e : i = k
      · subst e
        rw [upz_same, upz_same] at q
        rcases q with (q | q) | (q | q)
        · exact .inr ⟨by omega, by omega⟩
        · exact .inr ⟨hA j (.inl q), by have := hO.lt q; omega⟩
        · exact .inr ⟨hA j (.inr q), by have := hC j q; omega⟩
        · exact .inr ⟨by have := hOb j q; omega, by have := hOb j q; omega⟩
      · rw [upz_other _ _ e, upz_other _ _ e] at q
        exact .inl (hin i j q)
  · rcases h with h | h
    · exact ⟨by omega, by omega⟩
    · exact ⟨hA j (.inl h), by have := hO.lt h; omega⟩
  · rcases h with h | h
    · exact ⟨hA j (.inr h), by have := hC j h; omega⟩
    · exact ⟨by have := hOb j h; omega, by have := hOb j h; omega⟩
  · rcases h with h | h <;> rcases h2 with h2 | h2
    · have := hC j h2; omega
    · have := hOb j h2; omega
    · exact hAC j h h2
    · exact hAw j (.inl h) h2
set_option maxRecDepth 100000 in
set_option maxHeartbeats 4000000 in
theorem pask_bad {σ : Sv} {svb : Nat} {P : Nat → Prop} {w : World} (hP : PSv σ svb P w) (f t : Int) (aw : Option Addr) (m cw : Nat) (ws : List P2) (hm : ws.length = m) (hl : m ≤ 1048576) (B : Nat) (hB : B ≤ w.heap.size) (hW : Row encP 2 w B aw ws) (h0 : askErr σ f t ws ≠ 0) :
    Calls Try.prog 6 #[.pointer (some ⟨svb, 0, none⟩), .int .i64 f, .int .i64 t, .slice aw m cw] w fun e w' => e = .returned (.tuple #[.int .i64 0, .int .i64 (askErr σ f t ws)]) ∧ Below w.heap.size w w' := by
  have hn := hP.1.n
  have hC := hide (fun (w' : World) (a : Option Addr) (c : Nat) (hb : Below w.heap.size w w') (hr : Row encP 2 w' w'.heap.size a ws) => psearch_bad (svb := svb) (by obtain ⟨_, _, ga, gc, xs, W, N, hX, _⟩ := hP; exact (hX.stays hb).gd) hP.1.g f t a m c rv0 false ws hm hr hn.2.1 (askErr σ f t ws) rfl h0)
  obtain ⟨er, her⟩ : ∃ er, er = askErr σ f t ws := ⟨_, rfl⟩
  rw [← her] at h0 hC ⊢
  have q0 : (er != 0) = true := by simp [h0]
  unfold askV rv0 at hC
  replace her := hide her
  replace hm := hide hm
  replace hW := hide hW
  clear h0 hP hn
  go_enter Try.func6, Try.ntmps6
  go_wp2_with (at_builtin; (refine wpList_all (enc := encP) (v := .slice none 0 0) (xs := []) (base := w.heap.size) rfl (.const (.slice none 0 0)) (.tmp 17) 26 rfl _ 16 Try.underlying26 info_ratioN rfl ?d1 lenP oneP 0 rfl rfl (Own.nil _ _) B aw m cw ws ?d3 rfl hW.out ?d4 ?d5 ?d6 ?_); (case d1 => omega); (case d3 => exact hm.out); (case d4 => omega); (case d5 => unfold maxLen; omega); (case d6 => exact Nat.le_refl _); intro a4 c4 w1 own4 hb4 hg4; simp only [List.nil_append, Nat.zero_add] at own4 ⊢; replace own4 := hide own4; replace hb4 := hide hb4; clear hg4)
  have hb1 := hide ((hb4.out.alloc hb4.out.size (.cells #[.int .i64 f, .int .i64 t, .slice a4 m c4, .int .i64 0, .int .i64 0, .slice none 0 0, .int .i64 0, .int .i64 0, .bool false] 71)))
  have hrow := hide (show Row encP 2 (w1.alloc (.cells #[.int .i64 f, .int .i64 t, .slice a4 m c4, .int .i64 0, .int .i64 0, .slice none 0 0, .int .i64 0, .int .i64 0, .bool false] 71)) (w1.alloc (.cells #[.int .i64 f, .int .i64 t, .slice a4 m c4, .int .i64 0, .int .i64 0, .slice none 0 0, .int .i64 0, .int .i64 0, .bool false] 71)).heap.size a4 ws from by
    obtain ⟨a2, c2, e2, hr, _⟩ := own4.out.row lenP
    rw [hm.out] at e2
    cases e2
    exact (hr.below ((Below.refl _ _).alloc (Nat.le_refl _) _) (Nat.le_refl _)).mono (by simp))
  clear own4
  refine (hC.out _ a4 c4 hb1.out hrow.out).mono ?_
  rintro e w2 ⟨rfl, hb5⟩
  have hb6 := hide (hb1.out.trans (hb5.mono hb1.out.size))
  clear hb5 hrow
  go_wp2
  refine bodyPost_ret (v := .tuple #[.int .i64 0, .int .i64 er]) (by simp [results, Try.results6, go_sem]) rfl ⟨rfl, hb6.out⟩
set_option maxRecDepth 100000 in
set_option maxHeartbeats 4000000 in
theorem pask_ok {σ : Sv} {svb : Nat} {P : Nat → Prop} {w : World} (hP : PSv σ svb P w) (f t : Nat) (aw : Option Addr) (m cw : Nat) (ws : List P2) (hm : ws.length = m) (hl : m ≤ 1048576) (B : Nat) (hB : B ≤ w.heap.size) (hW : Row encP 2 w B aw ws) (h0 : askErr σ (f : Int) (t : Int) ws = 0) (hf : f < σ.cs.length) (ht : t < σ.cs.length) (hlk : lookErr (σ.cs.length : Int) σ.es [(f : Int), (t : Int)] = 0) (hws : wsErr ws = 0) :
    Calls Try.prog 6 #[.pointer (some ⟨svb, 0, none⟩), .int .i64 (f : Int), .int .i64 (t : Int), .slice aw m cw] w fun e w' => ∃ n er σ', e = .returned (.tuple #[.int .i64 n, .int .i64 er]) ∧ AskIs σ (f : Int) (t : Int) ws n er σ' ∧ PLeft σ' svb P w w' := by
  have hn := hP.1.n
  have hC := hide (fun (w' : World) (a : Option Addr) (c : Nat) (hb : Below w.heap.size w w') (hr : Row encP 2 w' w'.heap.size a ws) => psearch_ok (svb := svb) (by obtain ⟨_, _, ga, gc, xs, W, N, hX, _⟩ := hP; exact (hX.stays hb).gd) hP.1.g f t a m c rv0 false ws hm hr hlk hws hn.2.1)
  have hS := hide (fun (w' : World) (hb : Below w.heap.size w w') => PLeft.same hP hb)
  have hPut := hide (fun (w3 w' : World) (k b0 a4 c4 sb : Nat) (aw : Option Addr) (A C : Nat → Prop) hb hk hw0 own hO hA hC hAC hAw hw' => PSv.put (w3 := w3) (w' := w') (k := k) (b0 := b0) (aw := aw) (m := m) (cw := c4) (sb := sb) (A := A) (C := C) hP hb hk hf ht hws hw0 hm own hO hA hC hAC hAw hw')
  obtain ⟨hok, hlt, ga, gc, xs, W, N, hX, hin⟩ := hP
  have hCx := hide (fun (w' : World) (hb : Below w.heap.size w w') (i : Nat) (hi : i < 6) => show w'.cell? ⟨svb, 3 + i, none⟩ = some (.pointer (adr (xs i))) from (hX.stays hb).cx i hi)
  have hFz := hide (fun (w' : World) (hb : Below w.heap.size w w') (o : Nat) => (hX.stays hb).fz o)
  have hNo := hide (fun (k : Nat) (hk : k < 6) => hX.noneAt hk)
  have hYes := hide (fun (k : Nat) (hk : k < 6) (q : Sq) (e : σ.sl k = some q) => show ∃ x, xs k = some x from by obtain ⟨x, h, _⟩ := hX.someAt hk e; exact ⟨x, h⟩)
  have zs : svb < w.heap.size := cell_lt hX.c0
  unfold askV rv0 at hC
  replace hm := hide hm
  replace hW := hide hW
  replace h0 := hide h0
  clear hX hin hlt hok hn hlk hws hf ht
  go_enter Try.func6, Try.ntmps6
  go_wp2_with (at_builtin; (refine wpList_all (enc := encP) (v := .slice none 0 0) (xs := []) (base := w.heap.size) rfl (.const (.slice none 0 0)) (.tmp 17) 26 rfl _ 16 Try.underlying26 info_ratioN rfl ?d1 lenP oneP 0 rfl rfl (Own.nil _ _) B aw m cw ws ?d3 rfl hW.out ?d4 ?d5 ?d6 ?_); (case d1 => omega); (case d3 => exact hm.out); (case d4 => omega); (case d5 => unfold maxLen; omega); (case d6 => exact Nat.le_refl _); intro a4 c4 w1 own4 hb4 hg4; simp only [List.nil_append, Nat.zero_add] at own4 ⊢; replace own4 := hide own4; replace hb4 := hide hb4; clear hg4)
  obtain ⟨bA, hbA⟩ : ∃ bA, bA = w1.heap.size := ⟨_, rfl⟩
  obtain ⟨w2, hw2⟩ : ∃ w2, w2 = (w1.alloc (.cells #[.int .i64 (f : Int), .int .i64 (t : Int), .slice a4 m c4, .int .i64 0, .int .i64 0, .slice none 0 0, .int .i64 0, .int .i64 0, .bool false] 71)) := ⟨_, rfl⟩
  have hb12 : Below w1.heap.size w1 w2 := by rw [hw2]; exact (Below.refl _ _).alloc (Nat.le_refl _) _
  have hb1 := hide (hb4.out.trans (hb12.mono hb4.out.size))
  have y0 : w2.cell? ⟨bA, 0, none⟩ = some (.int .i64 (f : Int)) := by rw [hw2, hbA]; simp [go_sem]
  have y1 : w2.cell? ⟨bA, 1, none⟩ = some (.int .i64 (t : Int)) := by rw [hw2, hbA]; simp [go_sem]
  have y2 : w2.cell? ⟨bA, 2, none⟩ = some (.slice a4 m c4) := by rw [hw2, hbA]; simp [go_sem]
  have y3 : w2.cell? ⟨bA, 3, none⟩ = some (.int .i64 0) := by rw [hw2, hbA]; simp [go_sem]
  have y4 : w2.cell? ⟨bA, 4, none⟩ = some (.int .i64 0) := by rw [hw2, hbA]; simp [go_sem]
  have y5 : w2.cell? ⟨bA, 5, none⟩ = some (.slice none 0 0) := by rw [hw2, hbA]; simp [go_sem]
  have y6 : w2.cell? ⟨bA, 6, none⟩ = some (.int .i64 0) := by rw [hw2, hbA]; simp [go_sem]
  have y7 : w2.cell? ⟨bA, 7, none⟩ = some (.int .i64 0) := by rw [hw2, hbA]; simp [go_sem]
  have y8 : w2.cell? ⟨bA, 8, none⟩ = some (.bool false) := by rw [hw2, hbA]; simp [go_sem]
  have own2 := hide (own4.out.stays hb12)
  have zA : bA < w2.heap.size := cell_lt y0
  simp only [← hw2]
  simp only [← hbA]
  replace hbA := hide hbA
  replace hw2 := hide hw2
  clear hb12 own4
  refine (hC.out _ a4 c4 hb1.out (by
    obtain ⟨a2, c2, e2, hr, _⟩ := own2.out.row lenP
    rw [hm.out] at e2
    cases e2
    exact hr)).mono ?_
  rintro e w3 ⟨sb, A, C, rfl, hO, hAC, hb5, hC2, hdis⟩
  have y0 := cu_below hb5 y0 zA
  have y1 := cu_below hb5 y1 zA
  have y2 := cu_below hb5 y2 zA
  have y3 := cu_below hb5 y3 zA
  have y4 := cu_below hb5 y4 zA
  have y5 := cu_below hb5 y5 zA
  have y6 := cu_below hb5 y6 zA
  have y7 := cu_below hb5 y7 zA
  have y8 := cu_below hb5 y8 zA
  have hb6 := hide (hb1.out.trans (hb5.mono hb1.out.size))
  have own3 := hide (own2.out.stays hb5)
  have hPut2 := hide (fun (wx w' : World) (k : Nat) (hk : k < 6) (hb : Below w3.heap.size w3 wx) hw' => hPut.out wx w' k w.heap.size 0 c4 sb a4 A C (hb6.out.trans (hb.mono hb6.out.size)) hk (Nat.le_refl _) (own3.out.stays hb) (hO.stays hb) (fun j hj => Nat.le_trans hb1.out.size (hAC j hj)) (fun j hj => Nat.lt_of_lt_of_le (hC2 j hj) hb.size) hdis (fun j hj e => by have := (own2.out.block_lt j e).2; have := hAC j hj; omega) hw')
  have zA3 : bA < w3.heap.size := cell_lt y0
  have zs3 : svb < w3.heap.size := by have := hb6.out.size; omega
  clear hb5 own2 hb1 hO hAC hC2 hdis hPut hC
  have x0 := hCx.out w3 hb6.out 0 (by omega)
  have x1 := hCx.out w3 hb6.out 1 (by omega)
  have x2 := hCx.out w3 hb6.out 2 (by omega)
  have x3 := hCx.out w3 hb6.out 3 (by omega)
  have x4 := hCx.out w3 hb6.out 4 (by omega)
  have x5 := hCx.out w3 hb6.out 5 (by omega)
  simp only [Nat.reduceAdd] at x0 x1 x2 x3 x4 x5
  have hix := fun (k : Nat) (hk : k < 6) (w : World) => ix_at xs k hk w
  obtain ⟨p0, hp0⟩ : ∃ p, p = adr (xs 0) := ⟨_, rfl⟩
  obtain ⟨p1, hp1⟩ : ∃ p, p = adr (xs 1) := ⟨_, rfl⟩
  obtain ⟨p2, hp2⟩ : ∃ p, p = adr (xs 2) := ⟨_, rfl⟩
  obtain ⟨p3, hp3⟩ : ∃ p, p = adr (xs 3) := ⟨_, rfl⟩
  obtain ⟨p4, hp4⟩ : ∃ p, p = adr (xs 4) := ⟨_, rfl⟩
  obtain ⟨p5, hp5⟩ : ∃ p, p = adr (xs 5) := ⟨_, rfl⟩
  rw [← hp0] at x0 hix
  rw [← hp1] at x1 hix
  rw [← hp2] at x2 hix
  rw [← hp3] at x3 hix
  rw [← hp4] at x4 hix
  rw [← hp5] at x5 hix
  replace hix := hide hix
  clear hp0 hp1 hp2 hp3 hp4 hp5
  go_wp2_with fail
  go_loopw [33] (fun i wr => ∃ k : Nat, k ≤ 6 ∧ i = .int .i64 (k : Int) ∧ Hid (∀ j, j < k → σ.sl j ≠ none) ∧ Below w3.heap.size w3 wr) (fun i _ => 6 - (intOf i).toNat)
  case atStart => exact ⟨0, by omega, rfl, hide (fun j h => by omega), Below.refl _ _⟩
  case round =>
    obtain ⟨k, hk6, rfl, hno, hbr⟩ := hrel
    have hb7 := hide (hb6.out.trans (hbr.mono hb6.out.size))
    by_cases hk : k < 6
    · have i1 : (0 : Int) ≤ (k : Int) ∧ (k : Int) < 6 := by omega
      cases hq : σ.sl k with
      | none =>
        have hx := hNo.out k hk hq
        have hi : ∀ w, (Instr.index 63 (.agg #[.pointer p0, .pointer p1, .pointer p2, .pointer p3, .pointer p4, .pointer p5]) (.int .i64 (k : Int))).run Try.prog w = .ok (.pointer none) w := fun w => by rw [hix.out k hk w, hx]; rfl
        have s0 := hCx.out wr hb7.out k hk
        rw [hx] at s0
        replace s0 : wr.cell? ⟨svb, 3 + k, none⟩ = some (.pointer none) := s0
        have sf := hFz.out wr hb7.out (3 + k)
        have z0 := cu_below hbr y0 zA3
        have z1 := cu_below hbr y1 zA3
        have z2 := cu_below hbr y2 zA3
        have z3 := cu_below hbr y3 zA3
        have z4 := cu_below hbr y4 zA3
        have z5 := cu_below hbr y5 zA3
        have z6 := cu_below hbr y6 zA3
        have z7 := cu_below hbr y7 zA3
        have z8 := cu_below hbr y8 zA3
        have hA := hide (show AskIs σ (f : Int) (t : Int) ws (k : Int) 0 (σ.put k f t ws) from .inr (.inr ⟨h0.out, k, ⟨hk, hq, hno.out⟩, rfl, rfl, rfl⟩))
        have zsr : svb < wr.heap.size := cell_lt s0
        have zAr : bA < wr.heap.size := cell_lt z0
        replace hq := hide hq
        clear hx x0 x1 x2 x3 x4 x5 y0 y1 y2 y3 y4 y5 y6 y7 y8
        go_wp2_with fail
        go_region_law fail
        all_goals
          go_wp2
          refine bodyPost_ret (v := .tuple #[.int .i64 (k : Int), .int .i64 0]) (by simp [results, Try.results6, go_sem]) rfl ⟨(k : Int), 0, _, rfl, hA.out, by first | exact hPut2.out wr _ k hk hbr rfl | exact hPut2.out wr.drew _ k hk hbr.drew rfl | exact (hPut2.out wr _ k hk hbr rfl).drew⟩
      | some q =>
        obtain ⟨x, hx⟩ := hYes.out k hk q hq
        have hi : ∀ w, (Instr.index 63 (.agg #[.pointer p0, .pointer p1, .pointer p2, .pointer p3, .pointer p4, .pointer p5]) (.int .i64 (k : Int))).run Try.prog w = .ok (.pointer (some ⟨x, 0, none⟩)) w := fun w => by rw [hix.out k hk w, hx]; rfl
        have hno2 := hide (show ∀ j, j < k + 1 → σ.sl j ≠ none from fun j hj => by
          by_cases e : j = k
          · rw [e, hq]; simp
          · exact hno.out j (by omega))
        replace hq := hide hq
        clear hx x0 x1 x2 x3 x4 x5 y0 y1 y2 y3 y4 y5 y6 y7 y8
        go_wp2
        go_roundw
        case rel => exact ⟨k + 1, by omega, by go_num, hno2, bel⟩
        case measure => simp [intOf]; omega
    · obtain rfl : k = 6 := by omega
      go_wp2
      refine bodyPost_ret (v := .tuple #[.int .i64 0, .int .i64 10]) (by simp [results, Try.results6, go_sem]) rfl ⟨0, 10, σ, rfl, .inr (.inl ⟨h0.out, hno.out, rfl, rfl, rfl⟩), hS.out _ hb7.out⟩
theorem pask_any {σ : Sv} {svb : Nat} {P : Nat → Prop} {w : World} (hP : PSv σ svb P w) (f t : Int) (aw : Option Addr) (m cw : Nat) (ws : List P2) (hm : ws.length = m) (hl : m ≤ 1048576) (B : Nat) (hB : B ≤ w.heap.size) (hW : Row encP 2 w B aw ws) :
    Calls Try.prog 6 #[.pointer (some ⟨svb, 0, none⟩), .int .i64 f, .int .i64 t, .slice aw m cw] w fun e w' => ∃ n er σ', e = .returned (.tuple #[.int .i64 n, .int .i64 er]) ∧ AskIs σ f t ws n er σ' ∧ PLeft σ' svb P w w' := by
  by_cases h0 : askErr σ f t ws = 0
  · obtain ⟨f', t', rfl, rfl, h1, h2, h3, h4⟩ := ask_ok h0
    exact pask_ok hP f' t' aw m cw ws hm hl B hB hW h0 h1 h2 h3 h4
  · refine (pask_bad hP f t aw m cw ws hm hl B hB hW h0).mono ?_
    rintro e w' ⟨rfl, hb⟩
    exact ⟨0, _, σ, rfl, .inl ⟨h0, rfl, rfl, rfl⟩, PLeft.same hP hb⟩
end Go.Proofs.Ytccailcjclbhlaa
/-! serve's Edit: what it answers and leaves. No condition. -/
namespace Go.Proofs.Ytccailcjclbhlaa
open Go.RowKit
set_option linter.unusedSimpArgs false
set_option linter.unusedVariables false
theorem cells_set {cs : List Int} {a : Nat} {g : Int} (h : ∀ c ∈ cs, 0 ≤ c ∧ c ≤ 9) (hg : 0 ≤ g ∧ g ≤ 9) : cellsErr (cs.set a g) = 0 := by
  have : ∀ l : List Int, (∀ c ∈ l, 0 ≤ c ∧ c ≤ 9) → cellsErr l = 0 := by
    intro l
    induction l with
    | nil => intro _; rfl
    | cons c r ih =>
      intro h
      have := h c (by simp)
      unfold cellsErr
      rw [if_neg (by omega)]
      exact ih (fun x hx => h x (by simp [hx]))
  refine this _ (fun c hc => ?_)
  rcases List.mem_or_eq_of_mem_set hc with q | q
  · exact h c q
  · rw [q]; exact hg
theorem grid_set {W H : Int} {cs : List Int} {a : Nat} {g : Int} (h : gridErr W H cs = 0) (hg : 0 ≤ g ∧ g ≤ 9) : gridErr W H (cs.set a g) = 0 := by
  obtain ⟨h1, h2, h3, h4, h5, h6⟩ := gridErr_ok h
  unfold gridErr
  rw [if_neg (by omega), if_neg (by rw [List.length_set]; omega)]
  exact cells_set h6 hg
theorem edK_zero (σ : Sv) (a : Nat) (g : Int) : σ.edK a g 0 = { σ with cs := σ.cs.set a g } := by
  unfold Sv.edK
  simp
theorem edK_none {σ : Sv} {a : Nat} {g : Int} {k : Nat} (h : σ.sl k = none) : σ.edK a g (k + 1) = σ.edK a g k := by
  unfold Sv.edK
  simp only [Sv.mk.injEq, true_and, and_true]
  funext i
  by_cases e : i = k
  · subst e; simp [h]
  · by_cases q : i < k
    · have h2 : i < k + 1 := by omega
      simp [q, h2]
    · have h2 : ¬ i < k + 1 := by omega
      simp [q, h2]
theorem edK_some {σ : Sv} {a : Nat} {g : Int} {k : Nat} {q : Sq} (h : σ.sl k = some q) : σ.edK a g (k + 1) = { σ.edK a g k with sl := upz (σ.edK a g k).sl k (some (again (gridNet σ.W σ.H (σ.cs.set a g) σ.cs.length) σ.cs.length q)) } := by
  unfold Sv.edK
  simp only [Sv.mk.injEq, true_and, and_true]
  funext i
  unfold upz
  by_cases e : i = k
  · subst e; simp [h]
  · rw [if_neg e]
    by_cases q : i < k
    · have h2 : i < k + 1 := by omega
      simp [q, h2]
    · have h2 : ¬ i < k + 1 := by omega
      simp [q, h2]
theorem edK_at {σ : Sv} {a : Nat} {g : Int} {k : Nat} : (σ.edK a g k).sl k = σ.sl k := by unfold Sv.edK; simp
/-- the edges of each while the k first are anew -/
def efK (σ : Sv) (a : Nat) (g : Int) (k : Nat) (i : Nat) : List Ed := if i < k then gridNet σ.W σ.H (σ.cs.set a g) σ.cs.length else σ.es
theorem efK_succ (σ : Sv) (a : Nat) (g : Int) (k : Nat) : efK σ a g (k + 1) = upz (efK σ a g k) k (gridNet σ.W σ.H (σ.cs.set a g) σ.cs.length) := by
  funext i
  unfold efK upz
  by_cases e : i = k
  · subst e; simp
  · rw [if_neg e]
    by_cases q : i < k
    · have h2 : i < k + 1 := by omega
      simp [q, h2]
    · have h2 : ¬ i < k + 1 := by omega
      simp [q, h2]
theorem edK_ok {σ : Sv} (h : SvOk σ) {a : Nat} {g : Int} (hg : 0 ≤ g ∧ g ≤ 9) (hp : ∀ i q, i < 6 → σ.sl i = some q → ∀ r ∈ q.s.told, r.path.length ≤ 64) : SvOk (σ.edK a g 6) := by
  refine ⟨grid_set h.g hg, h.u, fun i q hi hq => ?_⟩
  rw [show (σ.edK a g 6).sl i = (σ.sl i).map (again (gridNet σ.W σ.H (σ.cs.set a g) σ.cs.length) σ.cs.length) by unfold Sv.edK; simp [hi]] at hq
  cases hs : σ.sl i with
  | none => rw [hs] at hq; cases hq
  | some q0 =>
    rw [hs] at hq
    cases hq
    have h0 := h.q i q0 hi hs
    have hl : (σ.edK a g 6).cs.length = σ.cs.length := List.length_set
    refine ⟨by rw [hl]; exact h0.f, by rw [hl]; exact h0.t, h0.w, fun r hr => ?_⟩
    unfold again keptNow at hr
    simp only at hr
    cases hlast : q0.s.told.getLast? with
    | none => rw [hlast] at hr; exact h0.k r hr
    | some r' =>
      rw [hlast] at hr
      cases hr
      exact hp i q0 hi hs _ (List.mem_of_getLast? hlast)
theorem edK_es (σ : Sv) (a : Nat) (g : Int) (k : Nat) : (σ.edK a g k).es = gridNet σ.W σ.H (σ.cs.set a g) σ.cs.length := by
  unfold Sv.es Sv.edK
  simp
section
variable {σ : Sv} {ef : Nat → List Ed} {svb gc : Nat} {ga : Option Addr} {xs : Nat → Option Nat} {W N : Nat → Nat → Prop} {w w' : World}
theorem PSx.ef' (h : PSx σ ef svb ga gc xs W N w) {ef' : Nat → List Ed} (he : ∀ i, i < 6 → ef i = ef' i ∨ σ.sl i = none) : PSx σ ef' svb ga gc xs W N w := by
  refine ⟨h.lay, h.c0, h.c1, h.c2, h.cx, h.c9, h.fz, h.own, h.grd, h.gown, fun i hi => ?_⟩
  rcases he i hi with e | e
  · rw [← e]; exact h.sl i hi
  · exact .inl ⟨e, h.noneAt hi e⟩
theorem PSx.paths (h : PSx σ ef svb ga gc xs W N w) : ∀ i q, i < 6 → σ.sl i = some q → ∀ r ∈ q.s.told, r.path.length ≤ 64 := by
  intro i q hi hq
  obtain ⟨x, hx, sb, cw, aw, rv, A, C, hQ⟩ := h.someAt hi hq
  exact hQ.obj.inv.1.lp
/-- request k begun anew -/
theorem PSx.again (h : PSx σ ef svb ga gc xs W N w) {k : Nat} (hk : k < 6) {q : Sq} {x sb cw sb2 : Nat} {aw : Option Addr} {rv rv2 : RV} {A C A2 C2 : Nat → Prop} (hx : xs k = some x) (hQ : PQc (ef k) σ.cs.length q x sb cw aw rv A C (W k) (N k) w) (kp : Keep (fun j => j = x) w w') {es : List Ed} {q2 : Sq} (e1 : q2.f = q.f) (e2 : q2.t = q.t) (e3 : q2.ws = q.ws)
    (x0 : w'.cell? ⟨x, 0, none⟩ = some (.pointer (some ⟨sb2, 0, none⟩))) (x1 : w'.cell? ⟨x, 1, none⟩ = some (.int .i64 (q.f : Int))) (x2 : w'.cell? ⟨x, 2, none⟩ = some (.int .i64 (q.t : Int))) (x3 : w'.cell? ⟨x, 3, none⟩ = some (.slice aw q.ws.length cw)) (x4 : w'.cell? ⟨x, 4, none⟩ = some (.int .i64 rv2.na)) (x5 : w'.cell? ⟨x, 5, none⟩ = some (.int .i64 rv2.nb)) (x6 : w'.cell? ⟨x, 6, none⟩ = some (.slice rv2.pa rv2.pm rv2.pc)) (x7 : w'.cell? ⟨x, 7, none⟩ = some (.int .i64 rv2.rc)) (x8 : w'.cell? ⟨x, 8, none⟩ = some (.int .i64 rv2.dn)) (x9 : w'.cell? ⟨x, 9, none⟩ = some (.bool q2.kept.isSome)) (fz : ∀ o, w'.frozen? ⟨x, o, none⟩ = false)
    (hO : AObj σ.cs.length q.t es hZ q.ws q2.s sb2 A2 C2 w') (hA : ∀ j, A2 j ∨ C2 j → w.heap.size ≤ j) (hC : ∀ j, C2 j → j < w'.heap.size) (hAC : ∀ j, A2 j → ¬ C2 j) (hk2 : KeptAt w' rv2 q2.kept) (hp : ∀ j, (Value.slice rv2.pa rv2.pm rv2.pc).ownBlock = some j → (N k j ∨ (w.heap.size ≤ j ∧ j < w'.heap.size)) ∧ ¬ A2 j) :
    ∃ W' N', PSx { σ with sl := upz σ.sl k (some q2) } (upz ef k es) svb ga gc xs W' N' w' ∧ ∀ i j, W' i j ∨ N' i j → W i j ∨ N i j ∨ (w.heap.size ≤ j ∧ j < w'.heap.size) := by
  have hxs : x ≠ svb := fun e => by have := hQ.wx; rw [e] at this; exact absurd (h.lay.sep 6 k _ h.own this) (by omega)
  have hns : ¬ (svb = x) := fun e => hxs e.symm
  have hzx : x < w.heap.size := h.lay.lt k x (.inl hQ.wx)
  have zs : svb < w.heap.size := cell_lt h.c0
  have hwb : ∀ b o, aw = some ⟨b, o, none⟩ → ¬ (b = x) := fun b o e e2 => by have := hQ.wN b o e; rw [e2] at this; exact h.lay.ap k k x hQ.wx this
  have hQ2 : PQc es σ.cs.length q2 x sb2 cw aw rv2 A2 C2 (fun j => j = x ∨ A2 j) (fun j => C2 j ∨ (∃ o, aw = some ⟨j, o, none⟩) ∨ (Value.slice rv2.pa rv2.pm rv2.pc).ownBlock = some j) w' :=
    ⟨x0, by rw [e1]; exact x1, by rw [e2]; exact x2, by rw [e3]; exact x3, x4, x5, x6, x7, x8, x9, fz, by rw [e2, e3]; exact hO, by rw [e3]; exact ((row_keep hQ.wr kp hwb).mono kp.size), hk2, .inl rfl, fun hh => by have := hA _ (.inl hh); omega, fun j hh => .inr hh, fun j hh => .inl hh, fun j o e => .inr (.inl ⟨o, e⟩), fun j e => .inr (.inr e)⟩
  have hslot := h.slot hk kp (fun j e => .inr (by rw [e]; exact hQ.wx)) (fun o ho v hv => kp.cu hv hns) (x := some x) (by rw [← hx]; exact kp.cu (h.cx k hk) hns) (fun o => (kp.frozen (p := ⟨svb, o, none⟩) zs hns).trans (h.fz o)) (some q2) es (W' := fun j => j = x ∨ A2 j) (N' := fun j => C2 j ∨ (∃ o, aw = some ⟨j, o, none⟩) ∨ (Value.slice rv2.pa rv2.pm rv2.pc).ownBlock = some j) (fun j hh => ?_) (fun j hh => ?_) (fun j hh hn => ?_) (.inr ⟨_, _, rfl, rfl, sb2, cw, aw, rv2, A2, C2, hQ2⟩)
  · rw [← hx, upz_self] at hslot
    refine ⟨_, _, hslot, fun i j hj => ?_⟩
    by_cases e : i = k
    · subst e
      rw [upz_same, upz_same] at hj
      rcases hj with (hj | hj) | hj | ⟨o, hj⟩ | hj
      · exact .inl (by rw [hj]; exact hQ.wx)
      · exact .inr (.inr ⟨hA j (.inl hj), hO.lt hj⟩)
      · exact .inr (.inr ⟨hA j (.inr hj), hC j hj⟩)
      · exact .inr (.inl (hQ.wN j o hj))
      · exact .inr (hp j hj).1
    · rw [upz_other _ _ e, upz_other _ _ e] at hj
      rcases hj with hj | hj
      · exact .inl hj
      · exact .inr (.inl hj)
  · rcases hh with hh | hh
    · exact .inl (by rw [hh]; exact hQ.wx)
    · exact .inr ⟨hA j (.inl hh), hO.lt hh⟩
  · rcases hh with hh | ⟨o, hh⟩ | hh
    · exact .inr (.inr ⟨hA j (.inr hh), hC j hh⟩)
    · exact .inr (.inl (hQ.wN j o hh))
    · exact .inr (hp j hh).1
  · rcases hh with hh | hh
    · subst hh
      rcases hn with hn | ⟨o, hn⟩ | hn
      · have := hA j (.inr hn); omega
      · exact hwb j o hn rfl
      · rcases (hp j hn).1 with h3 | h3
        · exact h.lay.ap k k j hQ.wx h3
        · omega
    · rcases hn with hn | ⟨o, hn⟩ | hn
      · exact hAC j hh hn
      · have h1 := hA j (.inl hh)
        have h2 := h.lay.lt k j (.inr (hQ.wN j o hn))
        omega
      · exact (hp j hn).2 hh
end
/-- the round told last, where Rounds gives it -/
theorem rounds_last {B : Nat} {w : World} {a : Option Addr} {t c : Nat} {told : List RD} {r : RD} (h : RoundsAt B w (.slice a t c) told) (ht : told.length = t) (hr : told.getLast? = some r) : ∃ g rv, a = some ⟨g, 0, none⟩ ∧ 0 < t ∧ g < w.heap.size ∧ w.cell? ⟨g, (t - 1) * 5, none⟩ = some (.int .i64 rv.na) ∧ w.cell? ⟨g, (t - 1) * 5 + 1, none⟩ = some (.int .i64 rv.nb) ∧ w.cell? ⟨g, (t - 1) * 5 + 2, none⟩ = some (.slice rv.pa rv.pm rv.pc) ∧ w.cell? ⟨g, (t - 1) * 5 + 3, none⟩ = some (.int .i64 rv.rc) ∧ w.cell? ⟨g, (t - 1) * 5 + 4, none⟩ = some (.int .i64 rv.dn) ∧ RoundAt w B rv r := by
  obtain ⟨ros, h1, h2, h3⟩ := h
  have hpos : 0 < told.length := by
    cases told with
    | nil => cases hr
    | cons x l => simp
  have hrt : told[told.length - 1]'(by omega) = r := by
    have := List.getLast?_eq_getElem? (l := told)
    rw [hr, List.getElem?_eq_getElem (by omega)] at this
    exact (Option.some.inj this).symm
  obtain ⟨rv, g1, g2⟩ := h2.2 (told.length - 1) (by omega)
  rw [hrt] at g2
  have hrl : ros.length = t := by rw [h2.1]; exact ht
  have hi : t - 1 < ros.length := by omega
  rcases h1.form with ⟨e1, e2⟩ | ⟨g, cap, e1, e2, e3, e4⟩
  · rw [e2] at hrl; simp at hrl; omega
  · simp only [Value.slice.injEq] at e1
    obtain ⟨rfl, -, rfl⟩ := e1
    have hrv : ros[t - 1] = rv := by
      rw [ht] at g1
      exact (List.getElem?_eq_some_iff.1 g1).2
    refine ⟨g, rv, rfl, by omega, e3, ?_, ?_, ?_, ?_, ?_, g2⟩
    · simpa using h1.get lenR (t - 1) hi 0 _ (by rw [hrv]; rfl)
    · exact h1.get lenR (t - 1) hi 1 _ (by rw [hrv]; rfl)
    · exact h1.get lenR (t - 1) hi 2 _ (by rw [hrv]; rfl)
    · exact h1.get lenR (t - 1) hi 3 _ (by rw [hrv]; rfl)
    · exact h1.get lenR (t - 1) hi 4 _ (by rw [hrv]; rfl)
end Go.Proofs.Ytccailcjclbhlaa
/-! serve's Edit, walked. No condition. -/
namespace Go.Proofs.Ytccailcjclbhlaa
open Go.RowKit
set_option linter.unusedSimpArgs false
set_option linter.unusedVariables false
/-- what holds while the requests are begun anew: k of them are -/
def EdI (σ : Sv) (a : Nat) (g : Int) (svb : Nat) (ga : Option Addr) (gc : Nat) (xs : Nat → Option Nat) (P : Nat → Prop) (w : World) (k : Nat) (wr : World) : Prop :=
  (∃ W N, PSx (σ.edK a g k) (efK σ a g k) svb ga gc xs W N wr ∧ ∀ i j, W i j ∨ N i j → grown P w wr j) ∧ Keep P w wr
section
variable {σ : Sv} {a : Nat} {g : Int} {svb : Nat} {ga : Option Addr} {gc : Nat} {xs : Nat → Option Nat} {P : Nat → Prop} {w wr : World} {k : Nat}
theorem edK_len (σ : Sv) (a : Nat) (g : Int) (k : Nat) : (σ.edK a g k).cs.length = σ.cs.length := List.length_set
theorem EdI.skip (h : EdI σ a g svb ga gc xs P w k wr) (hq : σ.sl k = none) : EdI σ a g svb ga gc xs P w (k + 1) wr := by
  obtain ⟨⟨W, N, h1, h2⟩, h3⟩ := h
  refine ⟨⟨W, N, ?_, h2⟩, h3⟩
  rw [edK_none hq]
  refine h1.ef' (fun i hi => ?_)
  by_cases e : i = k
  · subst e; exact .inr (by rw [edK_at]; exact hq)
  · left
    unfold efK
    by_cases q : i < k
    · have h2 : i < k + 1 := by omega
      simp [q, h2]
    · have h2 : ¬ i < k + 1 := by omega
      simp [q, h2]
theorem EdI.next {W N : Nat → Nat → Prop} (hX : PSx (σ.edK a g k) (efK σ a g k) svb ga gc xs W N wr) (hin : ∀ i j, W i j ∨ N i j → grown P w wr j) (hkp : Keep P w wr) (hk : k < 6) {q : Sq} (hq : σ.sl k = some q) {x sb cw sb2 : Nat} {aw : Option Addr} {rv rv2 : RV} {A C A2 C2 : Nat → Prop} (hx : xs k = some x) (hQ : PQc (efK σ a g k k) σ.cs.length q x sb cw aw rv A C (W k) (N k) wr) {w' : World} (kp : Keep (fun j => j = x) wr w')
    (x0 : w'.cell? ⟨x, 0, none⟩ = some (.pointer (some ⟨sb2, 0, none⟩))) (x1 : w'.cell? ⟨x, 1, none⟩ = some (.int .i64 (q.f : Int))) (x2 : w'.cell? ⟨x, 2, none⟩ = some (.int .i64 (q.t : Int))) (x3 : w'.cell? ⟨x, 3, none⟩ = some (.slice aw q.ws.length cw)) (x4 : w'.cell? ⟨x, 4, none⟩ = some (.int .i64 rv2.na)) (x5 : w'.cell? ⟨x, 5, none⟩ = some (.int .i64 rv2.nb)) (x6 : w'.cell? ⟨x, 6, none⟩ = some (.slice rv2.pa rv2.pm rv2.pc)) (x7 : w'.cell? ⟨x, 7, none⟩ = some (.int .i64 rv2.rc)) (x8 : w'.cell? ⟨x, 8, none⟩ = some (.int .i64 rv2.dn)) (x9 : w'.cell? ⟨x, 9, none⟩ = some (.bool (keptNow q).isSome)) (fz : ∀ o, w'.frozen? ⟨x, o, none⟩ = false)
    (hO : AObj σ.cs.length q.t (gridNet σ.W σ.H (σ.cs.set a g) σ.cs.length) hZ q.ws (sBegin (gridNet σ.W σ.H (σ.cs.set a g) σ.cs.length) σ.cs.length q.f q.t q.ws) sb2 A2 C2 w') (hA : ∀ j, A2 j ∨ C2 j → wr.heap.size ≤ j) (hC : ∀ j, C2 j → j < w'.heap.size) (hAC : ∀ j, A2 j → ¬ C2 j) (hk2 : KeptAt w' rv2 (keptNow q)) (hp : ∀ j, (Value.slice rv2.pa rv2.pm rv2.pc).ownBlock = some j → (N k j ∨ (wr.heap.size ≤ j ∧ j < w'.heap.size)) ∧ ¬ A2 j) : EdI σ a g svb ga gc xs P w (k + 1) w' := by
  have hl := edK_len σ a g k
  obtain ⟨W', N', h1, h2⟩ := PSx.again (q := q) hX hk hx (by rw [hl]; exact hQ) kp (es := gridNet σ.W σ.H (σ.cs.set a g) σ.cs.length) (q2 := again (gridNet σ.W σ.H (σ.cs.set a g) σ.cs.length) σ.cs.length q) rfl rfl rfl x0 x1 x2 x3 x4 x5 x6 x7 x8 x9 fz (by rw [hl]; exact hO) hA hC hAC hk2 hp
  refine ⟨⟨W', N', ?_, fun i j hj => ?_⟩, hkp.trans2 kp (fun j hj => ?_)⟩
  · rw [edK_some hq, efK_succ]
    exact h1
  · rcases h2 i j hj with h | h | h
    · rcases hin i j (.inl h) with h3 | h3
      · exact .inl h3
      · exact .inr ⟨h3.1, Nat.lt_of_lt_of_le h3.2 kp.size⟩
    · rcases hin i j (.inr h) with h3 | h3
      · exact .inl h3
      · exact .inr ⟨h3.1, Nat.lt_of_lt_of_le h3.2 kp.size⟩
    · exact .inr ⟨by have := hkp.size; omega, h.2⟩
  · subst hj
    rcases hin k j (.inl hQ.wx) with h3 | h3
    · exact .inl h3
    · exact .inr h3.1
theorem EdI.done (h : EdI σ a g svb ga gc xs P w 6 wr) (hok : SvOk σ) (hlt : ∀ j, P j → j < w.heap.size) (hg : 0 ≤ g ∧ g ≤ 9) (hp : ∀ i q, i < 6 → σ.sl i = some q → ∀ r ∈ q.s.told, r.path.length ≤ 64) : PLeft (σ.edK a g 6) svb P w wr := by
  obtain ⟨⟨W, N, h1, h2⟩, h3⟩ := h
  refine ⟨⟨edK_ok hok hg hp, fun j hj => ?_, ga, gc, xs, W, N, h1.ef' (fun i hi => .inl ?_), h2⟩, h3⟩
  · rcases hj with hj | hj
    · exact Nat.lt_of_lt_of_le (hlt j hj) h3.size
    · exact hj.2
  · rw [edK_es]; unfold efK; rw [if_pos hi]
theorem PSx.gdK {W N : Nat → Nat → Prop} {ef : Nat → List Ed} {T : Nat → Prop} {w' : World} (h : PSx σ ef svb ga gc xs W N w) (kp : Keep T w w') (hT : ∀ j, T j → W k j) (hk : k < 6) : Gd σ.W σ.H σ.cs svb w' := by
  have hs : ¬ T svb := fun e => absurd (h.lay.sep 6 k _ h.own (hT _ e)) (by omega)
  refine ⟨ga, gc, kp.cu h.c0 hs, kp.cu h.c1 hs, kp.cu h.c2 hs, (row_keep h.row kp (fun b o e e2 => ?_)).mono kp.size⟩
  exact absurd (h.lay.sep k 7 b (hT b e2) (h.gown b (by rw [e]; rfl))) (by omega)
end
set_option maxRecDepth 100000 in
set_option maxHeartbeats 2000000 in
theorem pedit_bad {W H : Int} {cs : List Int} {σ : Sv} (hcs : σ.cs = cs) {svb : Nat} {w : World} (hG : Gd W H cs svb w) (x g : Int) (h0 : editErr σ x g ≠ 0) :
    Calls Try.prog 9 #[.pointer (some ⟨svb, 0, none⟩), .int .i64 x, .int .i64 g] w fun e w' => e = .returned (.int .i64 (editErr σ x g)) ∧ Below w.heap.size w w' := by
  obtain ⟨ga, gc, -, -, c2, -⟩ := hG
  subst hcs
  have zs : svb < w.heap.size := cell_lt c2
  by_cases h1 : x < 0
  · have e1 : editErr σ x g = 1 := by unfold editErr; rw [if_pos (.inl h1)]
    rw [e1]
    have q1 : (x < 0) = True := by simp [h1]
    clear h0 e1 h1
    go_enter Try.func9, Try.ntmps9
    go_wp2
    go_ret
    exact ⟨rfl, bel⟩
  · have q1 : (x < 0) = False := by simp [h1]
    by_cases h2 : x ≥ (σ.cs.length : Int)
    · have e1 : editErr σ x g = 1 := by unfold editErr; rw [if_pos (.inr h2)]
      rw [e1]
      have q2 : ((σ.cs.length : Int) ≤ x) = True := by simp [h2]
      clear h0 e1 h1 h2
      go_enter Try.func9, Try.ntmps9
      go_wp2
      go_ret
      exact ⟨rfl, bel⟩
    · have q2 : ((σ.cs.length : Int) ≤ x) = False := by simp; omega
      have hbad : g < 0 ∨ g > 9 := by
        refine Classical.byContradiction fun hc => h0 ?_
        unfold editErr
        rw [if_neg (by omega), if_neg hc]
      have e1 : editErr σ x g = 4 := by unfold editErr; rw [if_neg (by omega), if_pos hbad]
      rw [e1]
      by_cases h3 : g < 0
      · have q3 : (g < 0) = True := by simp [h3]
        clear h0 e1 h1 h2 h3 hbad
        go_enter Try.func9, Try.ntmps9
        go_wp2
        go_ret
        exact ⟨rfl, bel⟩
      · have q3 : (g < 0) = False := by simp [h3]
        have q4 : (9 < g) = True := by simp; omega
        clear h0 e1 h1 h2 h3 hbad
        go_enter Try.func9, Try.ntmps9
        go_wp2
        go_ret
        exact ⟨rfl, bel⟩
set_option maxRecDepth 100000 in
set_option maxHeartbeats 8000000 in
theorem pedit_go {σ : Sv} {svb : Nat} {P : Nat → Prop} {w : World} (hP : PSv σ svb P w) (a : Nat) (g : Int) (ha : a < σ.cs.length) (hg : 0 ≤ g ∧ g ≤ 9) (hne : σ.cs[a] ≠ g) :
    Calls Try.prog 9 #[.pointer (some ⟨svb, 0, none⟩), .int .i64 (a : Int), .int .i64 g] w fun e w' => e = .returned (.int .i64 0) ∧ PLeft (σ.edK a g 6) svb P w w' := by
  obtain ⟨hok, hlt, ga, gc, xs, W, N, hX, hin⟩ := hP
  have hn := hok.n
  obtain ⟨b, rfl, hWb, e0, fb, hX1⟩ := hX.ground a ha g
  have hpaths := hide hX.paths
  have hgs := hide (grid_set (a := a) hok.g hg)
  have c2 := hX.c2
  have zs : svb < w.heap.size := cell_lt c2
  have zb : b < w.heap.size := cell_lt e0
  have hk1 : Keep P w (w.setCell ⟨b, a, none⟩ (.int .i64 g)) := (Keep.refl P w).setCell (p := ⟨b, a, none⟩) (.inl (hin 7 b (.inl hWb))) _
  have hE0 := hide (show EdI σ a g svb (some ⟨b, 0, none⟩) gc xs P w 0 (w.setCell ⟨b, a, none⟩ (.int .i64 g)) from by
    refine ⟨⟨W, N, ?_, fun i j q => .inl (hin i j q)⟩, hk1⟩
    rw [edK_zero]
    exact hX1.ef' (fun i hi => .inl (by unfold efK; simp)))
  have hDone := hide (fun (wr : World) (h : EdI σ a g svb (some ⟨b, 0, none⟩) gc xs P w 6 wr) => h.done hok hlt hg hpaths.out)
  have hLook := hide (fun (f t : Nat) (hf : f < σ.cs.length) (ht : t < σ.cs.length) => show lookErr ((σ.cs.set a g).length : Int) (gridNet σ.W σ.H (σ.cs.set a g) (σ.cs.set a g).length) [(f : Int), (t : Int)] = 0 from (edK_ok hok hg hpaths.out).look (by rw [edK_len]; exact hf) (by rw [edK_len]; exact ht))
  have hQs := hide (fun (k : Nat) (q : Sq) (hk : k < 6) (hq : σ.sl k = some q) => hok.q k q hk hq)
  have x0 : (w.setCell ⟨b, a, none⟩ (.int .i64 g)).cell? ⟨svb, 3, none⟩ = some (.pointer (adr (xs 0))) := hX1.cx 0 (by omega)
  have x1 : (w.setCell ⟨b, a, none⟩ (.int .i64 g)).cell? ⟨svb, 4, none⟩ = some (.pointer (adr (xs 1))) := hX1.cx 1 (by omega)
  have x2 : (w.setCell ⟨b, a, none⟩ (.int .i64 g)).cell? ⟨svb, 5, none⟩ = some (.pointer (adr (xs 2))) := hX1.cx 2 (by omega)
  have x3 : (w.setCell ⟨b, a, none⟩ (.int .i64 g)).cell? ⟨svb, 6, none⟩ = some (.pointer (adr (xs 3))) := hX1.cx 3 (by omega)
  have x4 : (w.setCell ⟨b, a, none⟩ (.int .i64 g)).cell? ⟨svb, 7, none⟩ = some (.pointer (adr (xs 4))) := hX1.cx 4 (by omega)
  have x5 : (w.setCell ⟨b, a, none⟩ (.int .i64 g)).cell? ⟨svb, 8, none⟩ = some (.pointer (adr (xs 5))) := hX1.cx 5 (by omega)
  have hix := fun (k : Nat) (hk : k < 6) (w : World) => ix_at xs k hk w
  obtain ⟨p0, hp0⟩ : ∃ p, p = adr (xs 0) := ⟨_, rfl⟩
  obtain ⟨p1, hp1⟩ : ∃ p, p = adr (xs 1) := ⟨_, rfl⟩
  obtain ⟨p2, hp2⟩ : ∃ p, p = adr (xs 2) := ⟨_, rfl⟩
  obtain ⟨p3, hp3⟩ : ∃ p, p = adr (xs 3) := ⟨_, rfl⟩
  obtain ⟨p4, hp4⟩ : ∃ p, p = adr (xs 4) := ⟨_, rfl⟩
  obtain ⟨p5, hp5⟩ : ∃ p, p = adr (xs 5) := ⟨_, rfl⟩
  rw [← hp0] at x0 hix
  rw [← hp1] at x1 hix
  rw [← hp2] at x2 hix
  rw [← hp3] at x3 hix
  rw [← hp4] at x4 hix
  rw [← hp5] at x5 hix
  replace hix := hide hix
  obtain ⟨m, hm⟩ : ∃ m, m = σ.cs.length := ⟨_, rfl⟩
  rw [← hm] at c2
  have i1 : (0 : Int) ≤ (a : Int) ∧ (a : Int) < (m : Int) := by omega
  obtain ⟨y, hy⟩ : ∃ y, y = σ.cs[a] := ⟨_, rfl⟩
  rw [← hy] at e0 hne
  have q1 : ((a : Int) < 0) = False := by simp
  have q2 : ((m : Int) ≤ (a : Int)) = False := by simp; omega
  have q3 : (g < 0) = False := by simp; omega
  have q4 : (9 < g) = False := by simp; omega
  have q5 : (y == g) = false := by simp [hne]
  have f0 := fb a
  obtain ⟨w1, hw1⟩ : ∃ w1, w1 = w.setCell ⟨b, a, none⟩ (.int .i64 g) := ⟨_, rfl⟩
  rw [← hw1] at x0 x1 x2 x3 x4 x5 hE0
  have zs1 : svb < w1.heap.size := cell_lt x0
  replace hy := hide hy
  replace hm := hide hm
  have hn64 := hn.2.1
  clear hp0 hp1 hp2 hp3 hp4 hp5 hX1 hX hin hlt hok hk1 hWb hn fb hne hg hy ha
  go_enter Try.func9, Try.ntmps9
  go_upto_region 8 with fail
  simp only [← hw1]
  replace hw1 := hide hw1
  clear c2 e0 f0
  go_wp2_with fail
  go_loopw [50] (fun i wr => ∃ k : Nat, k ≤ 6 ∧ i = .int .i64 (k : Int) ∧ Hid (EdI σ a g svb (some ⟨b, 0, none⟩) gc xs P w k wr)) (fun i _ => 6 - (intOf i).toNat)
  case atStart => exact ⟨0, by omega, rfl, by first | exact hE0 | exact hide hE0.out.drew⟩
  case round =>
    obtain ⟨k, hk6, rfl, hE⟩ := hrel
    by_cases hk : k < 6
    · have i1 : (0 : Int) ≤ (k : Int) ∧ (k : Int) < 6 := by omega
      clear x0 x1 x2 x3 x4 x5
      cases hq : σ.sl k with
      | none =>
        have hEn := hide (hE.out.skip hq)
        have hx : xs k = none := by obtain ⟨⟨W, N, hX, _⟩, _⟩ := hE.out; exact hX.noneAt hk (by rw [edK_at]; exact hq)
        have hi : ∀ w, (Instr.index 63 (.agg #[.pointer p0, .pointer p1, .pointer p2, .pointer p3, .pointer p4, .pointer p5]) (.int .i64 (k : Int))).run Try.prog w = .ok (.pointer none) w := fun w => by rw [hix.out k hk w, hx]; rfl
        replace hq := hide hq
        clear hx hE
        go_wp2_with fail
        go_roundw
        case rel => exact ⟨k + 1, by omega, by go_num, by first | exact hEn | exact hide hEn.out.drew⟩
        case measure => simp [intOf]; omega
      | some q =>
        obtain ⟨⟨W, N, hX, hin⟩, hkp⟩ := hE.out
        obtain ⟨x, hx, sb, cw, aw, rv, A, C, hQ0⟩ := hX.someAt hk (by rw [edK_at]; exact hq)
        have hQ : PQc (efK σ a g k k) σ.cs.length q x sb cw aw rv A C (W k) (N k) wr := by rw [← edK_len σ a g k]; exact hQ0
        have hi : ∀ w, (Instr.index 63 (.agg #[.pointer p0, .pointer p1, .pointer p2, .pointer p3, .pointer p4, .pointer p5]) (.int .i64 (k : Int))).run Try.prog w = .ok (.pointer (some ⟨x, 0, none⟩)) w := fun w => by rw [hix.out k hk w, hx]; rfl
        have hok1 := hQs.out k q hk hq
        have zx : x < wr.heap.size := cell_lt hQ.x0
        have hSr := hide (fun (w' : World) (kp : Keep (fun j => j = x) wr w') (rv : RV) (b : Bool) => psearch_ok (W := σ.W) (H := σ.H) (cs := σ.cs.set a g) (svb := svb) (w := w') (hX.gdK (k := k) kp (fun j e => by rw [e]; exact hQ.wx) hk) hgs.out q.f q.t aw q.ws.length cw rv b q.ws rfl ((row_keep hQ.wr kp (fun b o e e2 => by have h1 := hQ.wN b o e; rw [e2] at h1; exact hX.lay.ap k k x hQ.wx h1)).mono kp.size) (hLook.out q.f q.t hok1.f hok1.t) hok1.w (by rw [List.length_set]; exact hn64))
        rw [List.length_set] at hSr
        unfold askV at hSr
        have hEnd := hide (fun (w' : World) (rv2 : RV) (sb2 : Nat) (A2 C2 : Nat → Prop) kp x0 x1 x2 x3 x4 x5 x6 x7 x8 x9 fz hO hA hC hAC hk2 hp => EdI.next (rv2 := rv2) (sb2 := sb2) (A2 := A2) (C2 := C2) (w' := w') hX hin hkp hk hq hx hQ kp x0 x1 x2 x3 x4 x5 x6 x7 x8 x9 fz hO hA hC hAC hk2 hp)
        have hRd := hide (aobj_rounds hQ.obj)
        have hpN := hide hQ.pN
        have hxN := hide (fun (h : N k x) => hX.lay.ap k k x hQ.wx h)
        have hlN := hide (fun (j : Nat) (h : N k j) => hX.lay.lt k j (.inr h))
        have hkp0 := hide hQ.kp
        have c0 := hQ.x0
        have c1 := hQ.x1
        have c2 := hQ.x2
        have c3 := hQ.x3
        have c4 := hQ.x4
        have c5 := hQ.x5
        have c6 := hQ.x6
        have c7 := hQ.x7
        have c8 := hQ.x8
        have c9 := hQ.x9
        have fz := hQ.fz
        obtain ⟨T, hT⟩ : ∃ T, T = q.s.told.length := ⟨_, rfl⟩
        rw [← hT] at hRd
        have hT8 : T ≤ 8 := by have := hQ.obj.inv; omega
        obtain ⟨mw, hmw⟩ : ∃ mw, mw = q.ws.length := ⟨_, rfl⟩
        rw [← hmw] at c3 hSr hEnd
        obtain ⟨es', hes'⟩ : ∃ es', es' = gridNet σ.W σ.H (σ.cs.set a g) σ.cs.length := ⟨_, rfl⟩
        rw [← hes'] at hSr hEnd
        replace hes' := hide hes'
        replace hmw := hide hmw
        replace hq := hide hq
        clear hX hin hkp hQ0 hQ hx hE hok1
        go_wp2_with fail
        refine hRd.out.mono ?_
        rintro e w1 ⟨al, cl, rfl, hRA, hb1⟩
        have kp1 : Keep (fun j => j = x) wr w1 := Keep.new hb1
        have c0 := cu_below hb1 c0 zx
        have c1 := cu_below hb1 c1 zx
        have c2 := cu_below hb1 c2 zx
        have c3 := cu_below hb1 c3 zx
        have c4 := cu_below hb1 c4 zx
        have c5 := cu_below hb1 c5 zx
        have c6 := cu_below hb1 c6 zx
        have c7 := cu_below hb1 c7 zx
        have c8 := cu_below hb1 c8 zx
        have c9 := cu_below hb1 c9 zx
        have fz : ∀ o, w1.frozen? ⟨x, o, none⟩ = false := fun o => fu_below hb1 (fz o) zx
        have z1 : x < w1.heap.size := cell_lt c0
        have zr1 := hb1.size
        cases hl : q.s.told.getLast? with
        | none =>
          have hT0 : T = 0 := by rw [hT]; cases h : q.s.told with | nil => rfl | cons y l => rw [h] at hl; simp at hl
          have hkn : keptNow q = q.kept := by unfold keptNow; rw [hl]
          rw [hkn] at hEnd
          subst hT0
          replace hT := hide hT
          clear hRA hl hkn hRd
          obtain ⟨kb, hkb⟩ : ∃ kb, kb = q.kept.isSome := ⟨_, rfl⟩
          rw [← hkb] at c9 hEnd
          replace hkb := hide hkb
          go_wp2_with fail
          refine (hSr.out w1 kp1 rv kb).mono ?_
          rintro e w4 ⟨sb2, A2, C2, rfl, hO, hA, hb4, hC, hdis⟩
          have c0 := cu_below hb4 c0 z1
          have c1 := cu_below hb4 c1 z1
          have c2 := cu_below hb4 c2 z1
          have c3 := cu_below hb4 c3 z1
          have c4 := cu_below hb4 c4 z1
          have c5 := cu_below hb4 c5 z1
          have c6 := cu_below hb4 c6 z1
          have c7 := cu_below hb4 c7 z1
          have c8 := cu_below hb4 c8 z1
          have c9 := cu_below hb4 c9 z1
          have fz : ∀ o, w4.frozen? ⟨x, o, none⟩ = false := fun o => fu_below hb4 (fz o) z1
          have f0 := fz 0
          have z4 : x < w4.heap.size := cell_lt c0
          have kp4 : Keep (fun j => j = x) wr (w4.setCell ⟨x, 0, none⟩ (.pointer (some ⟨sb2, 0, none⟩))) := (kp1.trans (Keep.new hb4)).setCell (.inl rfl) _
          have hfin := hide (hEnd.out (w4.setCell ⟨x, 0, none⟩ (.pointer (some ⟨sb2, 0, none⟩))) rv sb2 A2 C2 kp4 (World.cell?_setCell_same' _ _ _ (by rw [c0]; rfl)) (cu_set_off c1 (by omega)) (cu_set_off c2 (by omega)) (cu_set_off c3 (by omega)) (cu_set_off c4 (by omega)) (cu_set_off c5 (by omega)) (cu_set_off c6 (by omega)) (cu_set_off c7 (by omega)) (cu_set_off c8 (by omega)) (cu_set_off c9 (by omega)) (fun o => fu_set (fz o)) (hO.keep ((Keep.refl (fun j => j = x) w4).setCell (p := ⟨x, 0, none⟩) (.inl rfl) _) (fun j hj e => by have := hA j hj; omega)) (fun j hj => Nat.le_trans zr1 (hA j hj)) (fun j hj => by simpa using hC j hj) hdis (hkp0.out.keep kp4 (fun j e e2 => by have h1 := hpN.out j e; rw [e2] at h1; exact hxN.out h1)) (fun j e => ⟨.inl (hpN.out j e), fun h => by have h1 := hlN.out j (hpN.out j e); have h2 := hA j (.inl h); omega⟩))
          clear hO hA hC hdis kp4 hEnd
          go_wp2
          go_roundw
          case rel => exact ⟨k + 1, by omega, by go_num, by first | exact hfin | exact hide hfin.out.drew⟩
          case measure => simp [intOf]; omega
        | some r =>
          have hkn : keptNow q = some r := by unfold keptNow; rw [hl]
          rw [hkn] at hEnd
          obtain ⟨gl, rv2, rfl, hpos, hgl, d0, d1, d2, d3, d4, hrd⟩ := rounds_last hRA hT.symm hl
          obtain ⟨u, hu⟩ : ∃ u, u = T - 1 := ⟨_, rfl⟩
          rw [← hu] at d0 d1 d2 d3 d4
          have hwu : IntKind.i64.wrap ((T : Int) - 1) = (u : Int) := by rw [IntWalk.i64_in _ (by omega)]; omega
          have i2 : (0 : Int) ≤ (u : Int) ∧ (u : Int) < (T : Int) := by omega
          have q6 : (0 < (T : Int)) = True := by simp; omega
          have hrb := hrd.2.2.2.2.2.block_lt
          have hrd := hide hrd
          have hrb := hide hrb
          replace hu := hide hu
          replace hT := hide hT
          clear hRA hl hkn hRd hkp0 hpN hpos
          have f4 := fz 4
          have f5 := fz 5
          have f6 := fz 6
          have f7 := fz 7
          have f8 := fz 8
          have f9 := fz 9
          obtain ⟨w3, hw3⟩ : ∃ w3, w3 = (((((w1.setCell ⟨x, 4, none⟩ (.int .i64 rv2.na)).setCell ⟨x, 5, none⟩ (.int .i64 rv2.nb)).setCell ⟨x, 6, none⟩ (.slice rv2.pa rv2.pm rv2.pc)).setCell ⟨x, 7, none⟩ (.int .i64 rv2.rc)).setCell ⟨x, 8, none⟩ (.int .i64 rv2.dn)).setCell ⟨x, 9, none⟩ (.bool true) := ⟨_, rfl⟩
          have kp3 : Keep (fun j => j = x) wr w3 := by rw [hw3]; exact ((((((kp1.setCell (p := ⟨x, 4, none⟩) (.inl rfl) (.int .i64 rv2.na)).setCell (p := ⟨x, 5, none⟩) (.inl rfl) (.int .i64 rv2.nb)).setCell (p := ⟨x, 6, none⟩) (.inl rfl) (.slice rv2.pa rv2.pm rv2.pc)).setCell (p := ⟨x, 7, none⟩) (.inl rfl) (.int .i64 rv2.rc)).setCell (p := ⟨x, 8, none⟩) (.inl rfl) (.int .i64 rv2.dn)).setCell (p := ⟨x, 9, none⟩) (.inl rfl) (.bool true))
          have kp13 : Keep (fun j => j = x) w1 w3 := by rw [hw3]; exact (((((((Keep.refl (fun j => j = x) w1).setCell (p := ⟨x, 4, none⟩) (.inl rfl) (.int .i64 rv2.na)).setCell (p := ⟨x, 5, none⟩) (.inl rfl) (.int .i64 rv2.nb)).setCell (p := ⟨x, 6, none⟩) (.inl rfl) (.slice rv2.pa rv2.pm rv2.pc)).setCell (p := ⟨x, 7, none⟩) (.inl rfl) (.int .i64 rv2.rc)).setCell (p := ⟨x, 8, none⟩) (.inl rfl) (.int .i64 rv2.dn)).setCell (p := ⟨x, 9, none⟩) (.inl rfl) (.bool true))
          have y0 : w3.cell? ⟨x, 0, none⟩ = some (.pointer (some ⟨sb, 0, none⟩)) := by rw [hw3]; simp [go_sem, c0]
          have y1 : w3.cell? ⟨x, 1, none⟩ = some (.int .i64 (q.f : Int)) := by rw [hw3]; simp [go_sem, c1]
          have y2 : w3.cell? ⟨x, 2, none⟩ = some (.int .i64 (q.t : Int)) := by rw [hw3]; simp [go_sem, c2]
          have y3 : w3.cell? ⟨x, 3, none⟩ = some (.slice aw mw cw) := by rw [hw3]; simp [go_sem, c3]
          have y4 : w3.cell? ⟨x, 4, none⟩ = some (.int .i64 rv2.na) := by rw [hw3]; simp [go_sem, c4]
          have y5 : w3.cell? ⟨x, 5, none⟩ = some (.int .i64 rv2.nb) := by rw [hw3]; simp [go_sem, c5, c4]
          have y6 : w3.cell? ⟨x, 6, none⟩ = some (.slice rv2.pa rv2.pm rv2.pc) := by rw [hw3]; simp [go_sem, c6, c4, c5]
          have y7 : w3.cell? ⟨x, 7, none⟩ = some (.int .i64 rv2.rc) := by rw [hw3]; simp [go_sem, c7, c4, c5, c6]
          have y8 : w3.cell? ⟨x, 8, none⟩ = some (.int .i64 rv2.dn) := by rw [hw3]; simp [go_sem, c8, c4, c5, c6, c7]
          have y9 : w3.cell? ⟨x, 9, none⟩ = some (.bool true) := by rw [hw3]; simp [go_sem, c9, c4, c5, c6, c7, c8]
          have yf : ∀ o, w3.frozen? ⟨x, o, none⟩ = false := fun o => by rw [hw3]; exact fu_set (fu_set (fu_set (fu_set (fu_set (fu_set (fz o))))))
          have zz3 : w3.heap.size = w1.heap.size := by rw [hw3]; simp
          go_wp2_with fail
          simp only [← hw3]
          clear c0 c1 c2 c3 c4 c5 c6 c7 c8 c9 d0 d1 d2 d3 d4 f4 f5 f6 f7 f8 f9
          refine (hSr.out w3 kp3 rv2 true).mono ?_
          rintro e w4 ⟨sb2, A2, C2, rfl, hO, hA, hb4, hC, hdis⟩
          have z3 : x < w3.heap.size := cell_lt y0
          have c0 := cu_below hb4 y0 z3
          have c1 := cu_below hb4 y1 z3
          have c2 := cu_below hb4 y2 z3
          have c3 := cu_below hb4 y3 z3
          have c4 := cu_below hb4 y4 z3
          have c5 := cu_below hb4 y5 z3
          have c6 := cu_below hb4 y6 z3
          have c7 := cu_below hb4 y7 z3
          have c8 := cu_below hb4 y8 z3
          have c9 := cu_below hb4 y9 z3
          have fz : ∀ o, w4.frozen? ⟨x, o, none⟩ = false := fun o => fu_below hb4 (yf o) z3
          have f0 := fz 0
          have z4 : x < w4.heap.size := cell_lt c0
          have hz34 := hb4.size
          have kp4 : Keep (fun j => j = x) wr (w4.setCell ⟨x, 0, none⟩ (.pointer (some ⟨sb2, 0, none⟩))) := (kp3.trans (Keep.new hb4)).setCell (.inl rfl) _
          have kp14 : Keep (fun j => j = x) w1 (w4.setCell ⟨x, 0, none⟩ (.pointer (some ⟨sb2, 0, none⟩))) := (kp13.trans (Keep.new hb4)).setCell (.inl rfl) _
          have hrd4 := (hrd.out.keepB kp14 (fun j e e2 => by have := hrb.out j e; omega))
          have hrd5 : KeptAt (w4.setCell ⟨x, 0, none⟩ (.pointer (some ⟨sb2, 0, none⟩))) rv2 (some r) := ⟨hrd4.1, hrd4.2.1, hrd4.2.2.1, hrd4.2.2.2.1, hrd4.2.2.2.2.1, hrd4.2.2.2.2.2.base_le (Nat.zero_le _)⟩
          have hfin := hide (hEnd.out (w4.setCell ⟨x, 0, none⟩ (.pointer (some ⟨sb2, 0, none⟩))) rv2 sb2 A2 C2 kp4 (World.cell?_setCell_same' _ _ _ (by rw [c0]; rfl)) (cu_set_off c1 (by omega)) (cu_set_off c2 (by omega)) (cu_set_off c3 (by omega)) (cu_set_off c4 (by omega)) (cu_set_off c5 (by omega)) (cu_set_off c6 (by omega)) (cu_set_off c7 (by omega)) (cu_set_off c8 (by omega)) (cu_set_off c9 (by omega)) (fun o => fu_set (fz o)) (hO.keep ((Keep.refl (fun j => j = x) w4).setCell (p := ⟨x, 0, none⟩) (.inl rfl) _) (fun j hj e => by have := hA j hj; omega)) (fun j hj => by have := hA j hj; omega) (fun j hj => by simpa using hC j hj) hdis hrd5 (fun j e => ⟨.inr ⟨(hrb.out j e).1, by have := (hrb.out j e).2; simp; omega⟩, fun h => by have h1 := (hrb.out j e).2; have h2 := hA j (.inl h); omega⟩))
          clear hO hA hC hdis kp4 hEnd hrd4 hrd5 kp14
          go_wp2
          go_roundw
          case rel => exact ⟨k + 1, by omega, by go_num, by first | exact hfin | exact hide hfin.out.drew⟩
          case measure => simp [intOf]; omega
    · obtain rfl : k = 6 := by omega
      go_wp2
      go_ret
      exact ⟨rfl, by first | exact hDone.out _ hE.out | exact hDone.out _ hE.out.drew⟩
end Go.Proofs.Ytccailcjclbhlaa
