/-
  What the reference's AnyBad and Lift return. Conditions: a right net.
-/
import Derived.Test.YtdpbkhempgghaaaSpread
import Derived.Test.YtdpbkhempgghaaaClone
import Derived.Test.YtdpbkhempgghaaaEqL
import Derived.Deep.RegionHeld3
namespace Go.Proofs.Ytdpbkhempgghaaa
open Go.RowKit
set_option linter.unusedSimpArgs false
set_option linter.unusedVariables false

theorem up_alloc_self {w0 w : World} {o : Obj} (h : Below w0.heap.size w0 w) : Below w0.heap.size w0 (w.alloc o) := h.alloc h.size o
/-- a made slice of numbers, as the walk has it -/
def zeros (n : Nat) : Array Value := madeCells #[.int .i64 0] (n * 1)
theorem own_zeros (w : World) (base n : Nat) (hb : base ≤ w.heap.size) (hn : n ≤ 4096) : Own encI 1 3 (w.alloc (.cells (zeros n) 3)) base (.slice (some ⟨w.heap.size, 0, none⟩) n n) (LI n (fun _ => 0)) := by
  obtain ⟨i0, hi, hz0, hz1, hz2⟩ := info_parts info_int
  have h1 := run_make (P := Try.prog) w 22 3 i0 (.int .i64 0) Try.underlying22 hi hz0 .i64 .i64 (n : Int) (n : Int) (by omega) (Int.le_refl _) (by rw [hz2]; omega) (by omega)
  obtain ⟨w1, h2, h3, _⟩ := run_make_full (P := Try.prog) w base 22 3 i0 (.int .i64 0) 1 Try.underlying22 hi hz0 hz1 .i64 .i64 n (by rw [hz2]; omega) (by unfold maxLen; omega) hb
  rw [h1] at h2
  simp only [Result.ok.injEq] at h2
  obtain ⟨_, rfl⟩ := h2
  rw [hz1] at h3
  have := own_made (enc := encI) _ base n _ 3 (0 : Int) (.int .i64 0) rfl rfl h3
  rw [li_rep] at this
  exact this
theorem run_zeros (w : World) (n : Nat) (hn : n ≤ 4096) : (Instr.makeSlice 22 (.int .i64 (n : Int)) (.int .i64 (n : Int))).run Try.prog w = .ok (.slice (some ⟨w.heap.size, 0, none⟩) n n) (w.alloc (.cells (zeros n) 3)) := by
  obtain ⟨i0, hi, hz0, hz1, hz2⟩ := info_parts info_int
  have h1 := run_make (P := Try.prog) w 22 3 i0 (.int .i64 0) Try.underlying22 hi hz0 .i64 .i64 (n : Int) (n : Int) (by omega) (Int.le_refl _) (by rw [hz2]; omega) (by omega)
  rw [h1, hz1]
  rfl
theorem spread_low {es : List NE} {K : Int} {d : Nat → Int} (hK : 0 ≤ K) (h : Low K d) (hc : ∀ e ∈ es, -10000 ≤ e.c) : ∀ t : Nat, Low (K + 10000 * t) (spread es d t)
  | 0 => h.mono (by omega)
  | t + 1 => by
    have ih := spread_low hK h hc t
    have key : ∀ (l : List NE) (nx : Nat → Int), (∀ e ∈ l, -10000 ≤ e.c) → Low (K + 10000 * t + 10000) nx → Low (K + 10000 * t + 10000) (l.foldl (spreadE (spread es d t)) nx) := by
      intro l
      induction l with
      | nil => intro nx _ h; exact h
      | cons e r ihl => intro nx hl h; exact ihl _ (fun x hx => hl x (List.mem_cons_of_mem _ hx)) (spreadE_low ih h (hl e (List.mem_cons_self ..)))
    exact (key es _ hc (ih.mono (by omega))).mono (by omega)
theorem nes_cost {n : Nat} {es : List Ed} (h : Right n es) : ∀ e ∈ nes es, -10000 ≤ e.c := by
  intro e he
  obtain ⟨x, hx, rfl⟩ := nes_mem he
  have := h x hx
  simp only
  omega
theorem low_zero : Low 0 (fun _ => 0) := fun v => by simp [FAR]
/-- the heights: costs round by round from 0 everywhere -/
def lift (n : Nat) (es : List Ed) : Nat → Int := spread (nes es) (fun _ => 0) (n - 1)
def lift1 (n : Nat) (es : List Ed) : Nat → Int := spread (nes es) (fun _ => 0) n
theorem spread_z (n : Nat) (a : Option Addr) (cap : Nat) (es : List Ed) (da : Option Addr) (dc : Nat) (d0 : Nat → Int) (m : Nat) (mi : Int) (hmi : mi = (m : Int)) (w : World) (B C : Nat) (hB : B ≤ w.heap.size) (hC : C ≤ w.heap.size) (hE : Row encE 3 w B a es) (hn1 : 1 ≤ n) (hn : n ≤ 64) (hl : es.length ≤ 600) (hm : m ≤ 1000) (hes : Right n es)
    (hD : Row encI 1 w C da (LI n d0)) (hlow : Low 2199023255552 d0) :
    Calls Try.prog 143 #[.agg #[.int .i64 (n : Int), .slice a es.length cap], .slice da n dc, .int .i64 mi] w (RowBack encI 1 (LI n (spread (nes es) d0 m)) n w) := by
  subst hmi
  exact spread_any n a cap es da dc d0 m w B C hB hC hE hn1 hn hl hm hes hD hlow
theorem spread_zf (n : Nat) (a : Option Addr) (cap : Nat) (es : List Ed) (da : Option Addr) (dc : Nat) (d0 : Nat → Int) (m : Nat) (mi : Int) (hmi : mi = (m : Int)) (w : World) (B C : Nat) (hB : B ≤ w.heap.size) (hC : C ≤ w.heap.size) (hE : Row encE 3 w B a es) (hn1 : 1 ≤ n) (hn : n ≤ 64) (hl : es.length ≤ 600) (hm : m ≤ 1000) (hes : Right n es)
    (hD : Row encI 1 w C da (LI n d0)) (hlow : Low 2199023255552 d0) :
    Calls Try.prog 143 #[.agg #[.int .i64 (n : Int), .slice a es.length cap], .slice da n dc, .int .i64 mi] w (RowBackF encI 1 (LI n (spread (nes es) d0 m)) n da dc m w) := by
  subst hmi
  exact spread_f n a cap es da dc d0 m w B C hB hC hE hn1 hn hl hm hes hD hlow
theorem own_row {w : World} {base : Nat} {e : TypeId} {a : Option Addr} {n c : Nat} {f : Nat → Int} (h : Own encI 1 e w base (.slice a n c) (LI n f)) : Row encI 1 w w.heap.size a (LI n f) := by
  obtain ⟨a', c', hv, hr5, _⟩ := h.row lenI
  simp only [Value.slice.injEq] at hv
  obtain ⟨rfl, _⟩ := hv
  exact hr5
set_option maxRecDepth 100000 in
set_option maxHeartbeats 1000000 in
theorem rlift_any (n : Nat) (a : Option Addr) (cap : Nat) (es : List Ed) (w : World) (B : Nat) (hB : B ≤ w.heap.size) (hE : Row encE 3 w B a es) (hn1 : 1 ≤ n) (hn : n ≤ 64) (hl : es.length ≤ 600) (hes : Right n es) :
    Calls Try.prog 98 #[.agg #[.int .i64 (n : Int), .slice a es.length cap]] w (RowBack encI 1 (LI n (lift n es)) n w) := by
  have hmk := fun w => run_zeros w n (by omega)
  have hw1 : IntKind.i64.wrap ((n : Int) - 1) = (n : Int) - 1 := IntWalk.i64_in _ (by omega)
  replace hE := hide hE
  replace hes := hide hes
  go_enter Try.func98, Try.ntmps98
  go_wp2_with fail
  obtain ⟨w0, h0⟩ : ∃ w0, w0 = w.alloc (.cells #[.int .i64 (n : Int), .slice a es.length cap] 32) := ⟨_, rfl⟩
  have hB0 : Below w.heap.size w w0 := by rw [h0]; exact (by repeat (first | with_reducible exact Below.refl _ _ | with_reducible assumption | with_reducible refine up_drewN ?_ | with_reducible refine up_drew ?_ | (with_reducible refine up_alloc ?_ ?_; rotate_left; (first | omega | (simp <;> omega) | simp)) | (with_reducible refine up_set ?_ ?_; rotate_left; (first | omega | (simp <;> omega) | simp)) | (with_reducible refine Below.trans ?_ (Below.mono (by with_reducible assumption) ?_); rotate_left; (first | omega | (simp <;> omega) | simp))))
  have c0 : w0.cell? ⟨w.heap.size, 0, none⟩ = some (.int .i64 (n : Int)) := by rw [h0]; simp [go_sem]
  have c1 : w0.cell? ⟨w.heap.size, 1, none⟩ = some (.slice a es.length cap) := by rw [h0]; simp [go_sem]
  have key := hide (show ∀ w', Below w0.heap.size w0 w' → (Below w0.heap.size w0 w' ∧ w'.cell? ⟨w.heap.size, 0, none⟩ = some (.int .i64 (n : Int)) ∧ w'.cell? ⟨w.heap.size, 1, none⟩ = some (.slice a es.length cap)) from
    fun w' hb => ⟨hb, (hb.cell (cell_lt c0)).trans c0, (hb.cell (cell_lt c1)).trans c1⟩)
  have hE0 := hide (hE.out.below hB0 hB)
  have hB1 := hide (Nat.le_trans hB hB0.size)
  simp only [← h0]
  replace hB0 := hide hB0
  clear h0 c0 c1
  go_region_held3 (fun w' => Below w0.heap.size w0 w' ∧ w'.cell? ⟨w.heap.size, 0, none⟩ = some (.int .i64 (n : Int)) ∧ w'.cell? ⟨w.heap.size, 1, none⟩ = some (.slice a es.length cap))
    (first | exact key.out _ (below_drew _) | exact key.out _ (by assumption) | exact key.out _ (up_alloc_self (below_drew _)) | exact key.out _ (up_alloc_self (And.left (by assumption))) | exact key.out _ (up_alloc_self (by assumption)))
    (first | (go_at_call 143; have hb4 := (‹_ ∧ _› : _ ∧ _).1; refine (spread_z n a cap es _ _ (fun _ => 0) (n - 1) _ (by omega) _ B _ (Nat.le_trans hB1.out hb4.size) (Nat.le_refl _) (hE0.out.below hb4 hB1.out) hn1 hn hl (by omega) hes.out (own_row (own_zeros _ _ n (Nat.le_refl _) (by omega))) (low_zero.mono (by omega))).mono ?_; rintro e w4 ⟨av, cv, rfl, hr4, hb5⟩; have hb6 := below_step hb4 hb5))
  all_goals
    have hb7 := (‹_ ∧ _› : _ ∧ _).1
    go_wp2
    go_ret
    exact ⟨av, cv, rfl, hr4, hB0.out.trans (hb7.mono hB0.out.size)⟩

/-- as Spread, from a slice of the call's own -/
def OwnAt (base n : Nat) (xs : List Int) (w : World) (e : Ending) (w' : World) : Prop := ∃ a c, e = .returned (.slice a n c) ∧ Own encI 1 3 w' base (.slice a n c) xs ∧ Below w.heap.size w w'
theorem spread_own (n : Nat) (a : Option Addr) (cap : Nat) (es : List Ed) (da : Option Addr) (dc : Nat) (d0 : Nat → Int) (m : Nat) (mi : Int) (hmi : mi = (m : Int)) (w : World) (B base : Nat) (hB : B ≤ w.heap.size) (hbs : base ≤ w.heap.size) (hE : Row encE 3 w B a es) (hn1 : 1 ≤ n) (hn : n ≤ 64) (hl : es.length ≤ 600) (hm : m ≤ 1000) (hes : Right n es)
    (hD : Own encI 1 3 w base (.slice da n dc) (LI n d0)) (hlow : Low 2199023255552 d0) :
    Calls Try.prog 143 #[.agg #[.int .i64 (n : Int), .slice a es.length cap], .slice da n dc, .int .i64 mi] w (OwnAt base n (LI n (spread (nes es) d0 m)) w) := by
  refine (spread_zf n a cap es da dc d0 m mi hmi w B w.heap.size hB (Nat.le_refl _) hE hn1 hn hl hm hes (own_row hD) hlow).mono ?_
  rintro e w' ⟨av, cv, rfl, hr, hb, hfs⟩
  rcases hfs with ⟨rfl, rfl, rfl⟩ | ⟨g, rfl, hg, own⟩
  · exact ⟨av, cv, rfl, hD.stays hb, hb⟩
  · exact ⟨_, cv, rfl, own.base_le hbs, hb⟩
set_option maxRecDepth 100000 in
set_option maxHeartbeats 1000000 in
theorem rlift_own (n : Nat) (a : Option Addr) (cap : Nat) (es : List Ed) (w : World) (B : Nat) (hB : B ≤ w.heap.size) (hE : Row encE 3 w B a es) (hn1 : 1 ≤ n) (hn : n ≤ 64) (hl : es.length ≤ 600) (hes : Right n es) :
    Calls Try.prog 98 #[.agg #[.int .i64 (n : Int), .slice a es.length cap]] w (OwnBack encI 1 3 (LI n (lift n es)) n w) := by
  have hmk := fun w => run_zeros w n (by omega)
  have hw1 : IntKind.i64.wrap ((n : Int) - 1) = (n : Int) - 1 := IntWalk.i64_in _ (by omega)
  replace hE := hide hE
  replace hes := hide hes
  go_enter Try.func98, Try.ntmps98
  go_wp2_with fail
  obtain ⟨w0, h0⟩ : ∃ w0, w0 = w.alloc (.cells #[.int .i64 (n : Int), .slice a es.length cap] 32) := ⟨_, rfl⟩
  have hB0 : Below w.heap.size w w0 := by rw [h0]; exact (by repeat (first | with_reducible exact Below.refl _ _ | with_reducible assumption | with_reducible refine up_drewN ?_ | with_reducible refine up_drew ?_ | (with_reducible refine up_alloc ?_ ?_; rotate_left; (first | omega | (simp <;> omega) | simp)) | (with_reducible refine up_set ?_ ?_; rotate_left; (first | omega | (simp <;> omega) | simp)) | (with_reducible refine Below.trans ?_ (Below.mono (by with_reducible assumption) ?_); rotate_left; (first | omega | (simp <;> omega) | simp))))
  have c0 : w0.cell? ⟨w.heap.size, 0, none⟩ = some (.int .i64 (n : Int)) := by rw [h0]; simp [go_sem]
  have c1 : w0.cell? ⟨w.heap.size, 1, none⟩ = some (.slice a es.length cap) := by rw [h0]; simp [go_sem]
  have key := hide (show ∀ w', Below w0.heap.size w0 w' → (Below w0.heap.size w0 w' ∧ w'.cell? ⟨w.heap.size, 0, none⟩ = some (.int .i64 (n : Int)) ∧ w'.cell? ⟨w.heap.size, 1, none⟩ = some (.slice a es.length cap)) from
    fun w' hb => ⟨hb, (hb.cell (cell_lt c0)).trans c0, (hb.cell (cell_lt c1)).trans c1⟩)
  have hE0 := hide (hE.out.below hB0 hB)
  have hB1 := hide (Nat.le_trans hB hB0.size)
  simp only [← h0]
  replace hB0 := hide hB0
  clear h0 c0 c1
  go_region_held3 (fun w' => Below w0.heap.size w0 w' ∧ w'.cell? ⟨w.heap.size, 0, none⟩ = some (.int .i64 (n : Int)) ∧ w'.cell? ⟨w.heap.size, 1, none⟩ = some (.slice a es.length cap))
    (first | exact key.out _ (below_drew _) | exact key.out _ (by assumption) | exact key.out _ (up_alloc_self (below_drew _)) | exact key.out _ (up_alloc_self (And.left (by assumption))) | exact key.out _ (up_alloc_self (by assumption)))
    (first | (go_at_call 143; have hb4 := (‹_ ∧ _› : _ ∧ _).1; refine (spread_own n a cap es _ _ (fun _ => 0) (n - 1) _ (by omega) _ B _ (Nat.le_trans hB1.out hb4.size) (by first | (simp; done) | (simp; omega)) (hE0.out.below hb4 hB1.out) hn1 hn hl (by omega) hes.out (own_zeros _ _ n (Nat.le_refl _) (by omega)) (low_zero.mono (by omega))).mono ?_; rintro e w4 ⟨av, cv, rfl, own4, hb5⟩; have hb6 := below_step hb4 hb5))
  all_goals
    have hb7 := (‹_ ∧ _› : _ ∧ _).1
    replace own4 := hide own4
    go_wp2
    go_ret
    exact ⟨av, cv, rfl, own4.out.base_le (by have := hB0.out.size; first | omega | (simp; omega)), hB0.out.trans (hb7.mono hB0.out.size)⟩

