/-
  What the reference's Guess returns. Condition: the slices read.
-/
import Derived.Test.YtjidomfnngdomaaHeurP
import Derived.BigQuiet
import Derived.Deep.QuietTactic
namespace Go.Proofs.Ytjidomfnngdomaa
open Go.RowKit
set_option linter.unusedSimpArgs false
set_option linter.unusedVariables false
set_option maxHeartbeats 1000000 in
theorem guess1_any (n : Nat) (f : Nat → Int) (ah : Option Addr) (ch hb : Nat) (u v : Nat) (c : Int) (w : World) (B : Nat) (hE : Row encI 1 w B ah (LI n f)) (hk : w.cell? ⟨hb, 0, none⟩ = some (.slice ah n ch)) (hu : u < n) (hv : v < n) (hf : ∀ i, 0 ≤ f i ∧ f i ≤ 1099511627776) (hc : -10000 ≤ c ∧ c ≤ 10000) (b : Bool) (hB : b = decide (c + f v < f u)) :
    Calls Try.prog 65 #[.agg #[.int .i64 (u : Int), .int .i64 (v : Int), .int .i64 c], .pointer (some ⟨hb, 0, none⟩)] w fun e' w' => e' = .returned (.bool b) ∧ Below w.heap.size w w' := by
  obtain ⟨b1, o1, rfl, hb1, c1⟩ := hE.atI u hu
  obtain ⟨b2, o2, e2, hb2, c2⟩ := hE.atI v hv
  simp only [Option.some.injEq, Addr.mk.injEq] at e2
  obtain ⟨rfl, rfl, _⟩ := e2
  have hl1 := cell_lt c1
  have hl2 := cell_lt hk
  have h1 := hf u
  have h2 := hf v
  have iu : (0 : Int) ≤ (u : Int) ∧ (u : Int) < (n : Int) := by omega
  have iv : (0 : Int) ≤ (v : Int) ∧ (v : Int) < (n : Int) := by omega
  obtain ⟨x, hx⟩ : ∃ x, x = f u := ⟨_, rfl⟩
  obtain ⟨y, hy⟩ : ∃ y, y = f v := ⟨_, rfl⟩
  rw [← hx] at c1 h1 hB
  rw [← hy] at c2 h2 hB
  replace hx := hide hx
  replace hy := hide hy
  cases b with
  | true =>
    have q : y < x - c := by have := of_decide_eq_true hB.symm; omega
    replace hB := hide hB
    clear hf
    have hw := hide (show IntKind.i64.wrap (x - c) = x - c from IntWalk.i64_in _ (by omega))
    go_enter Try.func65, Try.ntmps65
    go_wp2
    replace hw := hw.out
    go_quiet (fail)
    clear hw
    go_wp2
    go_ret
    exact ⟨ret_bool (by simp <;> omega), (by repeat (first | with_reducible exact Below.refl _ _ | with_reducible assumption | with_reducible refine up_drewN ?_ | with_reducible refine up_drew ?_ | (with_reducible refine up_alloc ?_ ?_; rotate_left; (first | omega | (simp <;> omega) | simp)) | (with_reducible refine up_set ?_ ?_; rotate_left; (first | omega | (simp <;> omega) | simp)) | (with_reducible refine Below.trans ?_ (Below.mono (by with_reducible assumption) ?_); rotate_left; (first | omega | (simp <;> omega) | simp))))⟩
  | false =>
    have q : ¬ y < x - c := by have := of_decide_eq_false hB.symm; omega
    replace hB := hide hB
    clear hf
    have hw := hide (show IntKind.i64.wrap (x - c) = x - c from IntWalk.i64_in _ (by omega))
    go_enter Try.func65, Try.ntmps65
    go_wp2
    replace hw := hw.out
    go_quiet (fail)
    clear hw
    go_wp2
    go_ret
    exact ⟨ret_bool (by simp <;> omega), (by repeat (first | with_reducible exact Below.refl _ _ | with_reducible assumption | with_reducible refine up_drewN ?_ | with_reducible refine up_drew ?_ | (with_reducible refine up_alloc ?_ ?_; rotate_left; (first | omega | (simp <;> omega) | simp)) | (with_reducible refine up_set ?_ ?_; rotate_left; (first | omega | (simp <;> omega) | simp)) | (with_reducible refine Below.trans ?_ (Below.mono (by with_reducible assumption) ?_); rotate_left; (first | omega | (simp <;> omega) | simp))))⟩
set_option maxHeartbeats 2000000 in
theorem ixg_any (n : Nat) (f : Nat → Int) (ah : Option Addr) (ch hb : Nat) (a : Option Addr) (cap : Nat) (es : List Ed) (w : World) (B : Nat) (hB : B ≤ w.heap.size) (hE : Row encE 3 w B a es) (hl : es.length ≤ 600) (hes : Right n es) (hH : Row encI 1 w B ah (LI n f)) (hk : w.cell? ⟨hb, 0, none⟩ = some (.slice ah n ch)) (hf : ∀ i, 0 ≤ f i ∧ f i ≤ 1099511627776) :
    Calls Try.prog 113 #[.slice a es.length cap, .func (.func 65) #[] #[.pointer (some ⟨hb, 0, none⟩)]] w fun e w' => e = .returned (.int .i64 (eIdx f es 0)) ∧ Below w.heap.size w w' := by
  replace hE := hide hE
  replace hes := hide hes
  replace hH := hide hH
  replace hf := hide hf
  go_enter Try.func113, Try.ntmps113
  go_wp2
  go_loopw [8] (fun i wr => ∃ k : Nat, k ≤ es.length ∧ i = .int .i64 k ∧ Hid (eIdx f es 0 = eIdx f (es.drop k) k) ∧ Hid (Below w.heap.size w wr)) (fun i _ => es.length - (intOf i).toNat)
  case atStart => exact ⟨0, Nat.zero_le _, rfl, rfl, Below.refl _ _⟩
  case round =>
    obtain ⟨k, hkl, rfl, hrest, hb'⟩ := hrel
    by_cases hlt : k < es.length
    · obtain ⟨u, v, e1, e2, e3, e4, e5, e6, -⟩ := right_edge hes.out k hlt
      obtain ⟨b, o, rfl, hbB, c0, c1, c2⟩ := hE.out.ed k hlt
      have c0 := cu_below hb'.out c0 (by simp; omega)
      have c1 := cu_below hb'.out c1 (by simp; omega)
      have c2 := cu_below hb'.out c2 (by simp; omega)
      rw [e1] at c0
      rw [e2] at c1
      have hz := hb'.out.size
      have ku := cu_below hb'.out hk (cell_lt hk)
      have hHr := hide (hH.out.below hb'.out hB)
      have q1 : ∀ c, (es[k].c + f es[k].v.toNat < f es[k].u.toNat) = (es[k].c + f v < f u) ∨ c = c := fun c => .inr rfl
      clear q1
      have qe : (es[k].c + f es[k].v.toNat < f es[k].u.toNat) ↔ (es[k].c + f v < f u) := by rw [e1, e2]; simp
      by_cases q : es[k].c + f v < f u
      · have hq := hide (eIdx_hit (f := f) hlt (qe.2 q))
        have hG := hide (guess1_any n f ah ch hb u v es[k].c wr B hHr.out ku e3 e4 hf.out ⟨e5, e6⟩ true (by simp [q]))
        clear qe q e5 e6
        obtain ⟨c, hc⟩ : ∃ c, c = es[k].c := ⟨_, rfl⟩
        rw [← hc] at hG c2
        replace hc := hide hc
        replace e1 := hide e1
        replace e2 := hide e2
        go_wp2_with fail
        refine hG.out.mono ?_
        rintro e w1 ⟨rfl, hb1⟩
        go_wp2
        go_ret
        exact ⟨ret_int (by rw [hrest.out, hq.out]), hb'.out.trans (hb1.mono hz)⟩
      · have hq := hide (eIdx_miss (f := f) hlt (fun h => q (qe.1 h)))
        have hG := hide (guess1_any n f ah ch hb u v es[k].c wr B hHr.out ku e3 e4 hf.out ⟨e5, e6⟩ false (by simp [q]))
        clear qe q e5 e6
        obtain ⟨c, hc⟩ : ∃ c, c = es[k].c := ⟨_, rfl⟩
        rw [← hc] at hG c2
        replace hc := hide hc
        replace e1 := hide e1
        replace e2 := hide e2
        go_wp2_with fail
        refine hG.out.mono ?_
        rintro e w1 ⟨rfl, hb1⟩
        go_wp2
        go_roundw
        case rel => exact ⟨k + 1, by omega, by go_num, hide (by rw [hrest.out]; exact hq.out), hide (hb'.out.trans (hb1.mono hz))⟩
        case measure => simp [intOf]; omega
    · go_wp2
      go_ret
      refine ⟨ret_int ?_, hb'.out⟩
      rw [hrest.out, List.drop_eq_nil_of_le (by omega)]
      rfl
theorem cg_any (n : Nat) (f : Nat → Int) (ah : Option Addr) (ch hb : Nat) (a : Option Addr) (cap : Nat) (es : List Ed) (w : World) (B : Nat) (hB : B ≤ w.heap.size) (hE : Row encE 3 w B a es) (hl : es.length ≤ 600) (hes : Right n es) (hH : Row encI 1 w B ah (LI n f)) (hk : w.cell? ⟨hb, 0, none⟩ = some (.slice ah n ch)) (hf : ∀ i, 0 ≤ f i ∧ f i ≤ 1099511627776) :
    Calls Try.prog 64 #[.slice a es.length cap, .func (.func 65) #[] #[.pointer (some ⟨hb, 0, none⟩)]] w fun e w' => e = .returned (.bool (decide (eErr f es = 7))) ∧ Below w.heap.size w w' := by
  have hG := hide (ixg_any n f ah ch hb a cap es w B hB hE hl hes hH hk hf)
  have hl2 := hide (eIdx_err f es 0).1
  clear hE hes hH hf
  go_enter Try.func64, Try.ntmps64
  go_wp2_with fail
  refine hG.out.mono ?_
  rintro e w1 ⟨rfl, hb1⟩
  go_wp2
  go_ret
  exact ⟨ret_bool hl2.out, hb1⟩
end Go.Proofs.Ytjidomfnngdomaa
