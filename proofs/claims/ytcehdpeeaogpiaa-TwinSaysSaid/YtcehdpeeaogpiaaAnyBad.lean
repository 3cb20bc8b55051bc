/-
  What the reference's AnyBad and Lift return. Conditions: a right net.
-/
import Derived.Test.YtcehdpeeaogpiaaSpread
import Derived.Test.YtcehdpeeaogpiaaClone
import Derived.Test.YtcehdpeeaogpiaaEqA
import Derived.Deep.RegionHeld3
namespace Go.Proofs.Ytcehdpeeaogpiaa
open Go.RowKit
set_option linter.unusedSimpArgs false
set_option linter.unusedVariables false

theorem up_alloc_self {w0 w : World} {o : Obj} (h : Below w0.heap.size w0 w) : Below w0.heap.size w0 (w.alloc o) := h.alloc h.size o
/-- a made slice of numbers, as the walk has it -/
def zeros (n : Nat) : Array Value := madeCells #[.int .i64 0] (n * 1)
theorem own_zeros (w : World) (base n : Nat) (hb : base ≤ w.heap.size) (hn : n ≤ 4096) : Own encI 1 3 (w.alloc (.cells (zeros n) 3)) base (.slice (some ⟨w.heap.size, 0, none⟩) n n) (LI n (fun _ => 0)) := by
  obtain ⟨i0, hi, hz0, hz1, hz2⟩ := info_parts info_int
  have h1 := run_make (P := Try.prog) w 29 3 i0 (.int .i64 0) Try.underlying29 hi hz0 .i64 .i64 (n : Int) (n : Int) (by omega) (Int.le_refl _) (by rw [hz2]; omega) (by omega)
  obtain ⟨w1, h2, h3, _⟩ := run_make_full (P := Try.prog) w base 29 3 i0 (.int .i64 0) 1 Try.underlying29 hi hz0 hz1 .i64 .i64 n (by rw [hz2]; omega) (by unfold maxLen; omega) hb
  rw [h1] at h2
  simp only [Result.ok.injEq] at h2
  obtain ⟨_, rfl⟩ := h2
  rw [hz1] at h3
  have := own_made (enc := encI) _ base n _ 3 (0 : Int) (.int .i64 0) rfl rfl h3
  rw [li_rep] at this
  exact this
theorem run_zeros (w : World) (n : Nat) (hn : n ≤ 4096) : (Instr.makeSlice 29 (.int .i64 (n : Int)) (.int .i64 (n : Int))).run Try.prog w = .ok (.slice (some ⟨w.heap.size, 0, none⟩) n n) (w.alloc (.cells (zeros n) 3)) := by
  obtain ⟨i0, hi, hz0, hz1, hz2⟩ := info_parts info_int
  have h1 := run_make (P := Try.prog) w 29 3 i0 (.int .i64 0) Try.underlying29 hi hz0 .i64 .i64 (n : Int) (n : Int) (by omega) (Int.le_refl _) (by rw [hz2]; omega) (by omega)
  rw [h1, hz1]
  rfl
theorem spread_low {es : List NE} {K : Int} {d : Nat → Int} (hK : 0 ≤ K) (h : Low K d) (hc : ∀ e ∈ es, -10000 ≤ e.c) : ∀ t : Nat, Low (K + 10000 * t) (spread es d t)
  | 0 => h.mono (by omega)
  | t + 1 => by
    have ih := spread_low hK h hc t
    have key : ∀ (l : List NE) (nx : Nat → Int), (∀ e ∈ l, -10000 ≤ e.c) → Low (K + 10000 * t + 10000) nx → Low (K + 10000 * t + 10000) (l.foldl (spreadE (spread es d t)) nx) := by
      intro l
      induction l with
      | nil => intro nx _ h; exact h
      | cons e r ihl => intro nx hl h; exact ihl _ (fun x hx => hl x (List.mem_cons_of_mem _ hx)) (spreadE_low ih h (hl e (List.mem_cons_self ..)))
    exact (key es _ hc (ih.mono (by omega))).mono (by omega)
theorem nes_cost {n : Nat} {es : List Ed} (h : Right n es) : ∀ e ∈ nes es, -10000 ≤ e.c := by
  intro e he
  obtain ⟨x, hx, rfl⟩ := nes_mem he
  have := h x hx
  simp only
  omega
theorem low_zero : Low 0 (fun _ => 0) := fun v => by simp [FAR]
/-- the heights: costs round by round from 0 everywhere -/
def lift (n : Nat) (es : List Ed) : Nat → Int := spread (nes es) (fun _ => 0) (n - 1)
def lift1 (n : Nat) (es : List Ed) : Nat → Int := spread (nes es) (fun _ => 0) n
theorem spread_z (n : Nat) (a : Option Addr) (cap : Nat) (es : List Ed) (da : Option Addr) (dc : Nat) (d0 : Nat → Int) (m : Nat) (mi : Int) (hmi : mi = (m : Int)) (w : World) (B C : Nat) (hB : B ≤ w.heap.size) (hC : C ≤ w.heap.size) (hE : Row encE 3 w B a es) (hn1 : 1 ≤ n) (hn : n ≤ 64) (hl : es.length ≤ 600) (hm : m ≤ 1000) (hes : Right n es)
    (hD : Row encI 1 w C da (LI n d0)) (hlow : Low 2199023255552 d0) :
    Calls Try.prog 123 #[.agg #[.int .i64 (n : Int), .slice a es.length cap], .slice da n dc, .int .i64 mi] w (RowBack encI 1 (LI n (spread (nes es) d0 m)) n w) := by
  subst hmi
  exact spread_any n a cap es da dc d0 m w B C hB hC hE hn1 hn hl hm hes hD hlow
theorem spread_zf (n : Nat) (a : Option Addr) (cap : Nat) (es : List Ed) (da : Option Addr) (dc : Nat) (d0 : Nat → Int) (m : Nat) (mi : Int) (hmi : mi = (m : Int)) (w : World) (B C : Nat) (hB : B ≤ w.heap.size) (hC : C ≤ w.heap.size) (hE : Row encE 3 w B a es) (hn1 : 1 ≤ n) (hn : n ≤ 64) (hl : es.length ≤ 600) (hm : m ≤ 1000) (hes : Right n es)
    (hD : Row encI 1 w C da (LI n d0)) (hlow : Low 2199023255552 d0) :
    Calls Try.prog 123 #[.agg #[.int .i64 (n : Int), .slice a es.length cap], .slice da n dc, .int .i64 mi] w (RowBackF encI 1 (LI n (spread (nes es) d0 m)) n da dc m w) := by
  subst hmi
  exact spread_f n a cap es da dc d0 m w B C hB hC hE hn1 hn hl hm hes hD hlow
theorem own_row {w : World} {base : Nat} {e : TypeId} {a : Option Addr} {n c : Nat} {f : Nat → Int} (h : Own encI 1 e w base (.slice a n c) (LI n f)) : Row encI 1 w w.heap.size a (LI n f) := by
  obtain ⟨a', c', hv, hr5, _⟩ := h.row lenI
  simp only [Value.slice.injEq] at hv
  obtain ⟨rfl, _⟩ := hv
  exact hr5
