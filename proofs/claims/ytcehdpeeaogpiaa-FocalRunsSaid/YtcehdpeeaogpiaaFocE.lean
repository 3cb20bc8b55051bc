/-
  Several texts in one:
  Several texts in one:
    What heur.Check looks at, as lists. No program here.
    What the reference's Guess returns. Condition: the slices read.
    What heur.Check and the reference's Guess return. Condition: the slices read.
    What the reference's Guess returns, whole. Condition: the slices read.
  What star.Look and the reference's SearchLook return: the same. Conditions: that the arguments read.
  What the functions of package ratio, and the reference's functions on fractions, return. Conditions: bounds on the numbers, as each theorem says.
  What the reference's functions on fractions return. Conditions: bounds on the numbers, as each theorem says.
  The check of a fraction and the reference's check are one. No condition.
  What weigh.Weight and the reference's Weight return: the same. No condition.
  What focal.Run answers to what it refuses. Conditions: the slices read.
  Several texts in one:
    The reference's SameWay and SameFound over two that hold the same: true. Conditions: the lists read.
    What a search answers, as plain data. Conditions: none.
  The walk of felllaw.FocalRuns: it returns true. Conditions: the arguments read as data.
  Proved here: felllaw.FocalRuns returns true whatever it is given. No conditions.
-/
import Derived.Test.YtcehdpeeaogpiaaNetL
import Derived.Test.YtcehdpeeaogpiaaPlainB
import Derived.Test.YtcehdpeeaogpiaaMinMax
import Derived.BigQuiet
import Derived.Deep.QuietTactic
import Derived.Test.YtcehdpeeaogpiaaDDist
import Derived.Test.YtcehdpeeaogpiaaBase
import Derived.Deep.RegionHeld3
import Derived.WalkSpells
import Derived.WalkLawsBesides
import Derived.Test.YtcehdpeeaogpiaaStarO
import Derived.Test.YtcehdpeeaogpiaaEqA
import Derived.Test.YtcehdpeeaogpiaaFocS
import Derived.Test.YtcehdpeeaogpiaaFocT
import Derived.Test.YtcehdpeeaogpiaaOpen
/-! Several texts in one: -/
/-! What heur.Check looks at, as lists. No program here. -/
namespace Go.Proofs.Ytcehdpeeaogpiaa
def hErr : List Int → Int | [] => 0 | x :: r => if x < 0 ∨ 1099511627776 < x then 1 else hErr r
def eErr (f : Nat → Int) : List Ed → Int | [] => 0 | e :: r => if e.c + f e.v.toNat < f e.u.toNat then 7 else eErr f r
def hAt (h : List Int) (i : Nat) : Int := h.getD i 0
def guessErr (N : Int) (es : List Ed) (t : Int) (h : List Int) : Int :=
  if lookErr N es [t] ≠ 0 then lookErr N es [t] else if (h.length : Int) ≠ N then 1 else if hErr h ≠ 0 then 1 else if hAt h t.toNat ≠ 0 then 7 else eErr (hAt h) es
theorem li_hAt (h : List Int) : LI h.length (hAt h) = h := by
  apply List.ext_getElem
  · simp [LI]
  · intro i h1 h2
    rw [li_get]
    simp [hAt, List.getD, List.getElem?_eq_getElem h2]
theorem hErr_hit {h : List Int} {k : Nat} (hk : k < h.length) (q : h[k] < 0 ∨ 1099511627776 < h[k]) : hErr (h.drop k) = 1 := by
  rw [List.drop_eq_getElem_cons hk, hErr, if_pos q]
theorem hErr_miss {h : List Int} {k : Nat} (hk : k < h.length) (q : ¬ (h[k] < 0 ∨ 1099511627776 < h[k])) : hErr (h.drop k) = hErr (h.drop (k + 1)) := by
  rw [List.drop_eq_getElem_cons hk, hErr, if_neg q]
theorem hErr_all : ∀ {h : List Int}, hErr h = 0 ↔ ∀ x ∈ h, 0 ≤ x ∧ x ≤ 1099511627776
  | [] => by simp [hErr]
  | y :: r => by
    unfold hErr
    split
    · rename_i q
      constructor
      · intro h; omega
      · intro h; have := h y (by simp); omega
    · rename_i q
      rw [hErr_all]
      constructor
      · intro h x hx
        rcases List.mem_cons.1 hx with rfl | hx
        · omega
        · exact h x hx
      · intro h x hx; exact h x (List.mem_cons_of_mem _ hx)
theorem hErr_vals : ∀ (h : List Int), hErr h = 0 ∨ hErr h = 1
  | [] => .inl rfl
  | y :: r => by
    unfold hErr
    split
    · exact .inr rfl
    · exact hErr_vals r
theorem hErr_minmax {h : List Int} (h0 : 0 < h.length) : hErr h = 0 ↔ 0 ≤ minL h ∧ maxL h ≤ 1099511627776 := by
  rw [hErr_all, minL_le h0, maxL_ge h0]
  constructor
  · intro q; exact ⟨fun x hx => (q x hx).1, fun x hx => (q x hx).2⟩
  · intro q x hx; exact ⟨q.1 x hx, q.2 x hx⟩
theorem hAt_range {h : List Int} (q : hErr h = 0) (i : Nat) : 0 ≤ hAt h i ∧ hAt h i ≤ 1099511627776 := by
  unfold hAt
  rw [List.getD]
  cases e : h[i]? with
  | none => simp
  | some x => exact hErr_all.1 q x (List.mem_of_getElem? e)
theorem eErr_hit {f : Nat → Int} {es : List Ed} {k : Nat} (hk : k < es.length) (q : es[k].c + f es[k].v.toNat < f es[k].u.toNat) : eErr f (es.drop k) = 7 := by
  rw [List.drop_eq_getElem_cons hk, eErr, if_pos q]
theorem eErr_miss {f : Nat → Int} {es : List Ed} {k : Nat} (hk : k < es.length) (q : ¬ es[k].c + f es[k].v.toNat < f es[k].u.toNat) : eErr f (es.drop k) = eErr f (es.drop (k + 1)) := by
  rw [List.drop_eq_getElem_cons hk, eErr, if_neg q]
/-- where the first bad edge stands, or -1 -/
def eIdx (f : Nat → Int) : List Ed → Nat → Int | [], _ => -1 | e :: r, k => if e.c + f e.v.toNat < f e.u.toNat then (k : Int) else eIdx f r (k + 1)
theorem eIdx_hit {f : Nat → Int} {es : List Ed} {k : Nat} (hk : k < es.length) (q : es[k].c + f es[k].v.toNat < f es[k].u.toNat) : eIdx f (es.drop k) k = k := by
  rw [List.drop_eq_getElem_cons hk, eIdx, if_pos q]
theorem eIdx_miss {f : Nat → Int} {es : List Ed} {k : Nat} (hk : k < es.length) (q : ¬ es[k].c + f es[k].v.toNat < f es[k].u.toNat) : eIdx f (es.drop k) k = eIdx f (es.drop (k + 1)) (k + 1) := by
  rw [List.drop_eq_getElem_cons hk, eIdx, if_neg q]
theorem eIdx_err (f : Nat → Int) : ∀ (es : List Ed) (k : Nat), decide (0 ≤ eIdx f es k) = decide (eErr f es = 7) ∧ (eErr f es = 7 ∨ eErr f es = 0)
  | [], k => by simp [eIdx, eErr]
  | e :: r, k => by
    unfold eIdx eErr
    split
    · simp
    · exact eIdx_err f r (k + 1)
end Go.Proofs.Ytcehdpeeaogpiaa

/-! What the reference's Guess returns. Condition: the slices read. -/
namespace Go.Proofs.Ytcehdpeeaogpiaa
open Go.RowKit
set_option linter.unusedSimpArgs false
set_option linter.unusedVariables false
set_option maxHeartbeats 1000000 in
theorem guess1_any (n : Nat) (f : Nat → Int) (ah : Option Addr) (ch hb : Nat) (u v : Nat) (c : Int) (w : World) (B : Nat) (hE : Row encI 1 w B ah (LI n f)) (hk : w.cell? ⟨hb, 0, none⟩ = some (.slice ah n ch)) (hu : u < n) (hv : v < n) (hf : ∀ i, 0 ≤ f i ∧ f i ≤ 1099511627776) (hc : -10000 ≤ c ∧ c ≤ 10000) (b : Bool) (hB : b = decide (c + f v < f u)) :
    Calls Try.prog 180 #[.agg #[.int .i64 (u : Int), .int .i64 (v : Int), .int .i64 c], .pointer (some ⟨hb, 0, none⟩)] w fun e' w' => e' = .returned (.bool b) ∧ Below w.heap.size w w' := by
  obtain ⟨b1, o1, rfl, hb1, c1⟩ := hE.atI u hu
  obtain ⟨b2, o2, e2, hb2, c2⟩ := hE.atI v hv
  simp only [Option.some.injEq, Addr.mk.injEq] at e2
  obtain ⟨rfl, rfl, _⟩ := e2
  have hl1 := cell_lt c1
  have hl2 := cell_lt hk
  have h1 := hf u
  have h2 := hf v
  have iu : (0 : Int) ≤ (u : Int) ∧ (u : Int) < (n : Int) := by omega
  have iv : (0 : Int) ≤ (v : Int) ∧ (v : Int) < (n : Int) := by omega
  obtain ⟨x, hx⟩ : ∃ x, x = f u := ⟨_, rfl⟩
  obtain ⟨y, hy⟩ : ∃ y, y = f v := ⟨_, rfl⟩
  rw [← hx] at c1 h1 hB
  rw [← hy] at c2 h2 hB
  replace hx := hide hx
  replace hy := hide hy
  cases b with
  | true =>
    have q : y < x - c := by have := of_decide_eq_true hB.symm; omega
    replace hB := hide hB
    clear hf
    have hw := hide (show IntKind.i64.wrap (x - c) = x - c from IntWalk.i64_in _ (by omega))
    go_enter Try.func180, Try.ntmps180
    go_wp2
    replace hw := hw.out
    go_quiet (fail)
    clear hw
    go_wp2
    go_ret
    exact ⟨ret_bool (by simp <;> omega), (by repeat (first | with_reducible exact Below.refl _ _ | with_reducible assumption | with_reducible refine up_drewN ?_ | with_reducible refine up_drew ?_ | (with_reducible refine up_alloc ?_ ?_; rotate_left; (first | omega | (simp <;> omega) | simp)) | (with_reducible refine up_set ?_ ?_; rotate_left; (first | omega | (simp <;> omega) | simp)) | (with_reducible refine Below.trans ?_ (Below.mono (by with_reducible assumption) ?_); rotate_left; (first | omega | (simp <;> omega) | simp))))⟩
  | false =>
    have q : ¬ y < x - c := by have := of_decide_eq_false hB.symm; omega
    replace hB := hide hB
    clear hf
    have hw := hide (show IntKind.i64.wrap (x - c) = x - c from IntWalk.i64_in _ (by omega))
    go_enter Try.func180, Try.ntmps180
    go_wp2
    replace hw := hw.out
    go_quiet (fail)
    clear hw
    go_wp2
    go_ret
    exact ⟨ret_bool (by simp <;> omega), (by repeat (first | with_reducible exact Below.refl _ _ | with_reducible assumption | with_reducible refine up_drewN ?_ | with_reducible refine up_drew ?_ | (with_reducible refine up_alloc ?_ ?_; rotate_left; (first | omega | (simp <;> omega) | simp)) | (with_reducible refine up_set ?_ ?_; rotate_left; (first | omega | (simp <;> omega) | simp)) | (with_reducible refine Below.trans ?_ (Below.mono (by with_reducible assumption) ?_); rotate_left; (first | omega | (simp <;> omega) | simp))))⟩
set_option maxHeartbeats 2000000 in
theorem ixg_any (n : Nat) (f : Nat → Int) (ah : Option Addr) (ch hb : Nat) (a : Option Addr) (cap : Nat) (es : List Ed) (w : World) (B : Nat) (hB : B ≤ w.heap.size) (hE : Row encE 3 w B a es) (hl : es.length ≤ 600) (hes : Right n es) (hH : Row encI 1 w B ah (LI n f)) (hk : w.cell? ⟨hb, 0, none⟩ = some (.slice ah n ch)) (hf : ∀ i, 0 ≤ f i ∧ f i ≤ 1099511627776) :
    Calls Try.prog 88 #[.slice a es.length cap, .func (.func 180) #[] #[.pointer (some ⟨hb, 0, none⟩)]] w fun e w' => e = .returned (.int .i64 (eIdx f es 0)) ∧ Below w.heap.size w w' := by
  replace hE := hide hE
  replace hes := hide hes
  replace hH := hide hH
  replace hf := hide hf
  go_enter Try.func88, Try.ntmps88
  go_wp2
  go_loopw [8] (fun i wr => ∃ k : Nat, k ≤ es.length ∧ i = .int .i64 k ∧ Hid (eIdx f es 0 = eIdx f (es.drop k) k) ∧ Hid (Below w.heap.size w wr)) (fun i _ => es.length - (intOf i).toNat)
  case atStart => exact ⟨0, Nat.zero_le _, rfl, rfl, Below.refl _ _⟩
  case round =>
    obtain ⟨k, hkl, rfl, hrest, hb'⟩ := hrel
    by_cases hlt : k < es.length
    · obtain ⟨u, v, e1, e2, e3, e4, e5, e6, -⟩ := right_edge hes.out k hlt
      obtain ⟨b, o, rfl, hbB, c0, c1, c2⟩ := hE.out.ed k hlt
      have c0 := cu_below hb'.out c0 (by simp; omega)
      have c1 := cu_below hb'.out c1 (by simp; omega)
      have c2 := cu_below hb'.out c2 (by simp; omega)
      rw [e1] at c0
      rw [e2] at c1
      have hz := hb'.out.size
      have ku := cu_below hb'.out hk (cell_lt hk)
      have hHr := hide (hH.out.below hb'.out hB)
      have q1 : ∀ c, (es[k].c + f es[k].v.toNat < f es[k].u.toNat) = (es[k].c + f v < f u) ∨ c = c := fun c => .inr rfl
      clear q1
      have qe : (es[k].c + f es[k].v.toNat < f es[k].u.toNat) ↔ (es[k].c + f v < f u) := by rw [e1, e2]; simp
      by_cases q : es[k].c + f v < f u
      · have hq := hide (eIdx_hit (f := f) hlt (qe.2 q))
        have hG := hide (guess1_any n f ah ch hb u v es[k].c wr B hHr.out ku e3 e4 hf.out ⟨e5, e6⟩ true (by simp [q]))
        clear qe q e5 e6
        obtain ⟨c, hc⟩ : ∃ c, c = es[k].c := ⟨_, rfl⟩
        rw [← hc] at hG c2
        replace hc := hide hc
        replace e1 := hide e1
        replace e2 := hide e2
        go_wp2_with fail
        refine hG.out.mono ?_
        rintro e w1 ⟨rfl, hb1⟩
        go_wp2
        go_ret
        exact ⟨ret_int (by rw [hrest.out, hq.out]), hb'.out.trans (hb1.mono hz)⟩
      · have hq := hide (eIdx_miss (f := f) hlt (fun h => q (qe.1 h)))
        have hG := hide (guess1_any n f ah ch hb u v es[k].c wr B hHr.out ku e3 e4 hf.out ⟨e5, e6⟩ false (by simp [q]))
        clear qe q e5 e6
        obtain ⟨c, hc⟩ : ∃ c, c = es[k].c := ⟨_, rfl⟩
        rw [← hc] at hG c2
        replace hc := hide hc
        replace e1 := hide e1
        replace e2 := hide e2
        go_wp2_with fail
        refine hG.out.mono ?_
        rintro e w1 ⟨rfl, hb1⟩
        go_wp2
        go_roundw
        case rel => exact ⟨k + 1, by omega, by go_num, hide (by rw [hrest.out]; exact hq.out), hide (hb'.out.trans (hb1.mono hz))⟩
        case measure => simp [intOf]; omega
    · go_wp2
      go_ret
      refine ⟨ret_int ?_, hb'.out⟩
      rw [hrest.out, List.drop_eq_nil_of_le (by omega)]
      rfl
theorem cg_any (n : Nat) (f : Nat → Int) (ah : Option Addr) (ch hb : Nat) (a : Option Addr) (cap : Nat) (es : List Ed) (w : World) (B : Nat) (hB : B ≤ w.heap.size) (hE : Row encE 3 w B a es) (hl : es.length ≤ 600) (hes : Right n es) (hH : Row encI 1 w B ah (LI n f)) (hk : w.cell? ⟨hb, 0, none⟩ = some (.slice ah n ch)) (hf : ∀ i, 0 ≤ f i ∧ f i ≤ 1099511627776) :
    Calls Try.prog 105 #[.slice a es.length cap, .func (.func 180) #[] #[.pointer (some ⟨hb, 0, none⟩)]] w fun e w' => e = .returned (.bool (decide (eErr f es = 7))) ∧ Below w.heap.size w w' := by
  have hG := hide (ixg_any n f ah ch hb a cap es w B hB hE hl hes hH hk hf)
  have hl2 := hide (eIdx_err f es 0).1
  clear hE hes hH hf
  go_enter Try.func105, Try.ntmps105
  go_wp2_with fail
  refine hG.out.mono ?_
  rintro e w1 ⟨rfl, hb1⟩
  go_wp2
  go_ret
  exact ⟨ret_bool hl2.out, hb1⟩
end Go.Proofs.Ytcehdpeeaogpiaa

/-! What heur.Check and the reference's Guess return. Condition: the slices read. -/
namespace Go.Proofs.Ytcehdpeeaogpiaa
open Go.RowKit
set_option linter.unusedSimpArgs false
set_option linter.unusedVariables false
theorem row1' {w : World} {b : Nat} {x : Int} (h : w.cell? ⟨b, 0, none⟩ = some (.int .i64 x)) (B : Nat) (hB : w.heap.size ≤ B) : Row encI 1 w B (some ⟨b, 0, none⟩) [x] := (row1 h).mono hB
set_option maxRecDepth 100000 in
set_option maxHeartbeats 2000000 in
theorem hcheck_bad (N : Int) (a : Option Addr) (cap : Nat) (es : List Ed) (x : Int) (ah : Option Addr) (ch : Nat) (h : List Int) (w : World) (B : Nat) (hB : B ≤ w.heap.size) (hE : Row encE 3 w B a es) (hl : es.length ≤ 9223372036854775807) (h0 : lookErr N es [x] ≠ 0) :
    Calls Try.prog 108 #[.agg #[.int .i64 N, .slice a es.length cap], .int .i64 x, .slice ah h.length ch] w fun e w' => e = .returned (.int .i64 (lookErr N es [x])) ∧ Below w.heap.size w w' := by
  have q0 : (lookErr N es [x] != 0) = true := by simp [h0]
  have hL := hide (fun a1 c1 w B hB hE hP => look_any N a cap es a1 c1 1 [x] rfl w B hB hE hP hl (by omega))
  replace hE := hide hE
  clear h0
  go_enter Try.func108, Try.ntmps108
  go_wp2_with fail
  refine (hL.out _ _ _ (w.heap.size + 1 + 1) (by simp) ((hE.out.below ((by repeat (first | with_reducible exact Below.refl _ _ | with_reducible assumption | with_reducible refine up_drewN ?_ | with_reducible refine up_drew ?_ | (with_reducible refine up_alloc ?_ ?_; rotate_left; (first | omega | (simp <;> omega) | simp)) | (with_reducible refine up_set ?_ ?_; rotate_left; (first | omega | (simp <;> omega) | simp)) | (with_reducible refine Below.trans ?_ (Below.mono (by with_reducible assumption) ?_); rotate_left; (first | omega | (simp <;> omega) | simp)))) : Below w.heap.size w _) hB).mono (by omega)) ((row1 (by simp [go_sem])).mono (by simp))).mono ?_
  rintro e w1 ⟨rfl, hb1⟩
  go_wp2
  go_ret
  exact ⟨rfl, (by repeat (first | with_reducible exact Below.refl _ _ | with_reducible assumption | with_reducible refine up_drewN ?_ | with_reducible refine up_drew ?_ | (with_reducible refine up_alloc ?_ ?_; rotate_left; (first | omega | (simp <;> omega) | simp)) | (with_reducible refine up_set ?_ ?_; rotate_left; (first | omega | (simp <;> omega) | simp)) | (with_reducible refine Below.trans ?_ (Below.mono (by with_reducible assumption) ?_); rotate_left; (first | omega | (simp <;> omega) | simp))))⟩
set_option maxRecDepth 100000 in
set_option maxHeartbeats 4000000 in
theorem hcheck_ok (n : Nat) (a : Option Addr) (cap : Nat) (es : List Ed) (t : Nat) (ah : Option Addr) (ch : Nat) (h : List Int) (w : World) (B : Nat) (hB : B ≤ w.heap.size) (hE : Row encE 3 w B a es) (hH : Row encI 1 w B ah h) (hl : es.length ≤ 9223372036854775807) (hl2 : h.length ≤ 9223372036854775807) (h0 : lookErr (n : Int) es [(t : Int)] = 0) :
    Calls Try.prog 108 #[.agg #[.int .i64 (n : Int), .slice a es.length cap], .int .i64 (t : Int), .slice ah h.length ch] w fun e w' => e = .returned (.int .i64 (guessErr (n : Int) es (t : Int) h)) ∧ Below w.heap.size w w' := by
  have hr0 := hide (show guessErr (n : Int) es (t : Int) h = if (h.length : Int) ≠ n then 1 else if hErr h ≠ 0 then 1 else if hAt h t ≠ 0 then 7 else eErr (hAt h) es by unfold guessErr; rw [if_neg (by simp [h0])]; simp)
  obtain ⟨g1, g2⟩ := look_ok h0
  obtain ⟨g3, g4⟩ := posErr_ok g1
  obtain ⟨n1, n2, n3, n4⟩ := netErr_ok g3
  have ht : t < n := by have := g2 t (by simp); omega
  have hes := hide (show Right n es from n4)
  have hL := hide (fun a1 c1 w B hB hE hP => by have := look_any (n : Int) a cap es a1 c1 1 [(t : Int)] rfl w B hB hE hP hl (by omega); rw [h0] at this; exact this)
  replace hE := hide hE
  replace hH := hide hH
  clear h0 g1 g2 g3 g4 n4
  by_cases hlen : h.length = n
  · have hr := hide (show guessErr (n : Int) es (t : Int) h = if hErr h ≠ 0 then 1 else if hAt h t ≠ 0 then 7 else eErr (hAt h) es by rw [hr0.out, if_neg (by omega)])
    subst hlen
    clear hr0
    go_enter Try.func108, Try.ntmps108
    go_wp2_with fail
    refine (hL.out _ _ _ (w.heap.size + 1 + 1) (by simp) ((hE.out.below ((by repeat (first | with_reducible exact Below.refl _ _ | with_reducible assumption | with_reducible refine up_drewN ?_ | with_reducible refine up_drew ?_ | (with_reducible refine up_alloc ?_ ?_; rotate_left; (first | omega | (simp <;> omega) | simp)) | (with_reducible refine up_set ?_ ?_; rotate_left; (first | omega | (simp <;> omega) | simp)) | (with_reducible refine Below.trans ?_ (Below.mono (by with_reducible assumption) ?_); rotate_left; (first | omega | (simp <;> omega) | simp)))) : Below w.heap.size w _) hB).mono (by omega)) ((row1 (by simp [go_sem])).mono (by simp))).mono ?_
    rintro e w1 ⟨rfl, hb1⟩
    have k0 : w1.cell? ⟨w.heap.size, 0, none⟩ = some (.int .i64 (h.length : Int)) := cu_below hb1 (by simp [go_sem]) (by simp <;> omega)
    have k1 : w1.cell? ⟨w.heap.size, 1, none⟩ = some (.slice a es.length cap) := cu_below hb1 (by simp [go_sem]) (by simp <;> omega)
    have hbw := hide (unalloc (unalloc (hb1.mono (by simp <;> omega)) (by simp)) (Nat.le_refl _) : Below w.heap.size w w1)
    have hz1 : w.heap.size < w1.heap.size := cell_lt k0
    clear hb1
    have hH1 := hide (hH.out.below hbw.out hB)
    go_wp2
    go_loopw [9, 26] (fun _ i wr => ∃ k : Nat, k ≤ h.length ∧ i = .int .i64 k ∧ Hid (hErr h = hErr (h.drop k)) ∧ w1 = wr) (fun _ i _ => h.length - (intOf i).toNat)
    case atStart => exact ⟨0, Nat.zero_le _, rfl, rfl, rfl⟩
    case round =>
      obtain ⟨k, hk, rfl, hrest, rfl⟩ := hrel
      by_cases hlt : k < h.length
      · obtain ⟨b, o, rfl, hbB, e1⟩ := hH1.out.int k hlt
        have hbl := cell_lt e1
        obtain ⟨x, hx⟩ : ∃ x, x = h[k] := ⟨_, rfl⟩
        rw [← hx] at e1
        replace hx := hide hx
        by_cases q : x < 0 ∨ 1099511627776 < x
        · have hq := hide (hErr_hit hlt (by rw [← hx.out]; exact q))
          have q2 : x < 0 ∨ (0 ≤ x ∧ 1099511627776 < x) := by omega
          clear q
          rcases q2 with q | ⟨q0, q⟩
          all_goals
            go_wp2
            go_ret
            exact ⟨ret_int (by rw [hr.out, hrest.out, hq.out, if_pos (by simp)]), hbw.out⟩
        · have hq := hide (hErr_miss hlt (by rw [← hx.out]; exact q))
          have q1 : 0 ≤ x := by omega
          have q2 : x ≤ 1099511627776 := by omega
          clear q
          go_wp2
          go_roundw
          case rel => exact ⟨k + 1, by omega, by go_num, hide (by rw [hrest.out, hq.out]), (by first | rfl | trivial)⟩
          case measure => simp [intOf]; omega
      · have hz : hErr h = 0 := by rw [hrest.out, List.drop_eq_nil_of_le (by omega)]; rfl
        have hf := hide (hAt_range hz)
        have hr2 := hide (show guessErr (h.length : Int) es (t : Int) h = if hAt h t ≠ 0 then 7 else eErr (hAt h) es by rw [hr.out, if_neg (by simp [hz])])
        have hHL : Row encI 1 w1 B ah (LI h.length (hAt h)) := by rw [li_hAt]; exact hH1.out
        clear hz hr hrest
        obtain ⟨b, o, rfl, hbB, e1⟩ := hHL.atI t ht
        replace hHL := hide hHL
        have hbl := cell_lt e1
        have it : (0 : Int) ≤ (t : Int) ∧ (t : Int) < (h.length : Int) := by omega
        obtain ⟨x, hx⟩ : ∃ x, x = hAt h t := ⟨_, rfl⟩
        rw [← hx] at e1
        replace hx := hide hx
        by_cases q : x = 0
        · subst q
          have hr3 := hide (show guessErr (h.length : Int) es (t : Int) h = eErr (hAt h) es by rw [hr2.out, if_neg (by simp [← hx.out])])
          clear hr2
          go_wp2
          go_loopw [45] (fun i wr => ∃ k : Nat, k ≤ es.length ∧ i = .int .i64 k ∧ Hid (eErr (hAt h) es = eErr (hAt h) (es.drop k)) ∧ Hid (Below w1.heap.size w1 wr)) (fun i _ => es.length - (intOf i).toNat)
          case atStart => exact ⟨0, Nat.zero_le _, rfl, rfl, Below.refl _ _⟩
          case round =>
            obtain ⟨k, hk, rfl, hrest, hb'⟩ := hrel
            have hbr := hide (hbw.out.trans (hb'.out.mono (by omega)))
            have hzr := hb'.out.size
            by_cases hlt : k < es.length
            · obtain ⟨u, v, d1, d2, d3, d4, d5, d6, -⟩ := right_edge hes.out k hlt
              obtain ⟨b2, o2, rfl, hbB2, c0, c1, c2⟩ := hE.out.ed k hlt
              have c0 := cu_below hbr.out c0 (by simp; omega)
              have c1 := cu_below hbr.out c1 (by simp; omega)
              have c2 := cu_below hbr.out c2 (by simp; omega)
              rw [d1] at c0
              rw [d2] at c1
              have hHr := (hHL.out.below hb'.out (by omega))
              obtain ⟨b3, o3, e3, hb3, f1⟩ := hHr.atI u d3
              simp only [Option.some.injEq, Addr.mk.injEq] at e3
              obtain ⟨rfl, rfl, _⟩ := e3
              obtain ⟨b3, o3, e3, _, f2⟩ := hHr.atI v d4
              simp only [Option.some.injEq, Addr.mk.injEq] at e3
              obtain ⟨rfl, rfl, _⟩ := e3
              have qe : (es[k].c + hAt h es[k].v.toNat < hAt h es[k].u.toNat) ↔ (es[k].c + hAt h v < hAt h u) := by rw [d1, d2]; simp
              have g1 := hf.out u
              have g2 := hf.out v
              have hit := eErr_hit (f := hAt h) hlt
              have miss := eErr_miss (f := hAt h) hlt
              rw [qe] at hit miss
              clear qe hHr
              obtain ⟨c, hc⟩ : ∃ c, c = es[k].c := ⟨_, rfl⟩
              obtain ⟨p, hp⟩ : ∃ p, p = hAt h u := ⟨_, rfl⟩
              obtain ⟨r, hr⟩ : ∃ r, r = hAt h v := ⟨_, rfl⟩
              rw [← hc] at hit miss c2 d5 d6
              rw [← hp] at hit miss f1 g1
              rw [← hr] at hit miss f2 g2
              replace hit := hide hit
              replace miss := hide miss
              replace hc := hide hc
              replace hp := hide hp
              replace hr := hide hr
              replace d1 := hide d1
              replace d2 := hide d2
              have l0 := cell_lt c0
              have l1 := cell_lt f1
              have k3 := cu_below hb'.out k1 hz1
              have iu : (0 : Int) ≤ (u : Int) ∧ (u : Int) < (h.length : Int) := by omega
              have iv : (0 : Int) ≤ (v : Int) ∧ (v : Int) < (h.length : Int) := by omega
              have ik : (0 : Int) ≤ (k : Int) ∧ (k : Int) < (es.length : Int) := by omega
              have hw := hide (show IntKind.i64.wrap (c + r) = c + r from IntWalk.i64_in _ (by omega))
              by_cases q : c + r < p
              · have hq := hide (hit.out q)
                go_wp2
                replace hw := hw.out
                go_quiet (fail)
                clear hw
                go_wp2
                go_ret
                exact ⟨ret_int (by rw [hr3.out, hrest.out, hq.out]), up_drewN (up_alloc hbr.out (by omega))⟩
              · have hq := hide (miss.out q)
                go_wp2
                replace hw := hw.out
                go_quiet (fail)
                clear hw
                go_wp2
                go_roundw
                case rel => exact ⟨k + 1, by omega, by go_num, hide (by rw [hrest.out]; exact hq.out), hide (up_drewN (up_alloc hb'.out hzr))⟩
                case measure => simp [intOf]; omega
            · go_wp2
              go_ret
              refine ⟨ret_int ?_, hbr.out⟩
              rw [hr3.out, hrest.out, List.drop_eq_nil_of_le (by omega)]
              rfl
        · have hr3 := hide (show guessErr (h.length : Int) es (t : Int) h = 7 by rw [hr2.out, if_pos (by rw [← hx.out]; exact q)])
          have q2 : (x != 0) = true := by simp [q]
          clear q hr2
          go_wp2
          go_ret
          exact ⟨ret_int hr3.out.symm, hbw.out⟩
  · have hr := hide (show guessErr (n : Int) es (t : Int) h = 1 by rw [hr0.out, if_pos (by omega)])
    have q0 : ((h.length : Int) != (n : Int)) = true := by simp; omega
    clear hr0 hlen
    go_enter Try.func108, Try.ntmps108
    go_wp2_with fail
    refine (hL.out _ _ _ (w.heap.size + 1 + 1) (by simp) ((hE.out.below ((by repeat (first | with_reducible exact Below.refl _ _ | with_reducible assumption | with_reducible refine up_drewN ?_ | with_reducible refine up_drew ?_ | (with_reducible refine up_alloc ?_ ?_; rotate_left; (first | omega | (simp <;> omega) | simp)) | (with_reducible refine up_set ?_ ?_; rotate_left; (first | omega | (simp <;> omega) | simp)) | (with_reducible refine Below.trans ?_ (Below.mono (by with_reducible assumption) ?_); rotate_left; (first | omega | (simp <;> omega) | simp)))) : Below w.heap.size w _) hB).mono (by omega)) ((row1 (by simp [go_sem])).mono (by simp))).mono ?_
    rintro e w1 ⟨rfl, hb1⟩
    have k0 : w1.cell? ⟨w.heap.size, 0, none⟩ = some (.int .i64 (n : Int)) := cu_below hb1 (by simp [go_sem]) (by simp <;> omega)
    have hbw := hide (unalloc (unalloc (hb1.mono (by simp <;> omega)) (by simp)) (Nat.le_refl _) : Below w.heap.size w w1)
    have hz1 : w.heap.size < w1.heap.size := cell_lt k0
    clear hb1
    go_wp2
    go_ret
    exact ⟨ret_int hr.out.symm, hbw.out⟩
end Go.Proofs.Ytcehdpeeaogpiaa

/-! What the reference's Guess returns, whole. Condition: the slices read. -/
namespace Go.Proofs.Ytcehdpeeaogpiaa
open Go.RowKit
set_option linter.unusedSimpArgs false
set_option linter.unusedVariables false
set_option maxRecDepth 100000 in
set_option maxHeartbeats 2000000 in
theorem rguess_bad (N : Int) (a : Option Addr) (cap : Nat) (es : List Ed) (x : Int) (ah : Option Addr) (ch : Nat) (h : List Int) (w : World) (B : Nat) (hB : B ≤ w.heap.size) (hE : Row encE 3 w B a es) (hl : es.length ≤ 9223372036854775807) (h0 : lookErr N es [x] ≠ 0) :
    Calls Try.prog 107 #[.agg #[.int .i64 N, .slice a es.length cap], .int .i64 x, .slice ah h.length ch] w fun e w' => e = .returned (.int .i64 (lookErr N es [x])) ∧ Below w.heap.size w w' := by
  have q0 : (lookErr N es [x] != 0) = true := by simp [h0]
  have hL := hide (fun a1 c1 w B hB hE hP => rlook_any N a cap es a1 c1 1 [x] rfl w B hB hE hP hl (by omega))
  replace hE := hide hE
  clear h0
  go_enter Try.func107, Try.ntmps107
  go_wp2_with fail
  refine (hL.out _ _ _ (w.heap.size + 1 + 1 + 1) (by simp) ((hE.out.below ((by repeat (first | with_reducible exact Below.refl _ _ | with_reducible assumption | with_reducible refine up_drewN ?_ | with_reducible refine up_drew ?_ | (with_reducible refine up_alloc ?_ ?_; rotate_left; (first | omega | (simp <;> omega) | simp)) | (with_reducible refine up_set ?_ ?_; rotate_left; (first | omega | (simp <;> omega) | simp)) | (with_reducible refine Below.trans ?_ (Below.mono (by with_reducible assumption) ?_); rotate_left; (first | omega | (simp <;> omega) | simp)))) : Below w.heap.size w _) hB).mono (by omega)) ((row1 (by simp [go_sem])).mono (by simp))).mono ?_
  rintro e w1 ⟨rfl, hb1⟩
  go_wp2
  go_ret
  exact ⟨rfl, (by repeat (first | with_reducible exact Below.refl _ _ | with_reducible assumption | with_reducible refine up_drewN ?_ | with_reducible refine up_drew ?_ | (with_reducible refine up_alloc ?_ ?_; rotate_left; (first | omega | (simp <;> omega) | simp)) | (with_reducible refine up_set ?_ ?_; rotate_left; (first | omega | (simp <;> omega) | simp)) | (with_reducible refine Below.trans ?_ (Below.mono (by with_reducible assumption) ?_); rotate_left; (first | omega | (simp <;> omega) | simp))))⟩
set_option maxRecDepth 100000 in
set_option maxHeartbeats 4000000 in
theorem rguess_ok (n : Nat) (a : Option Addr) (cap : Nat) (es : List Ed) (t : Nat) (ah : Option Addr) (ch : Nat) (h : List Int) (w : World) (B : Nat) (hB : B ≤ w.heap.size) (hE : Row encE 3 w B a es) (hH : Row encI 1 w B ah h) (hl : es.length ≤ 9223372036854775807) (hl2 : h.length ≤ 9223372036854775807) (h0 : lookErr (n : Int) es [(t : Int)] = 0) :
    Calls Try.prog 107 #[.agg #[.int .i64 (n : Int), .slice a es.length cap], .int .i64 (t : Int), .slice ah h.length ch] w fun e w' => e = .returned (.int .i64 (guessErr (n : Int) es (t : Int) h)) ∧ Below w.heap.size w w' := by
  have hr0 := hide (show guessErr (n : Int) es (t : Int) h = if (h.length : Int) ≠ n then 1 else if hErr h ≠ 0 then 1 else if hAt h t ≠ 0 then 7 else eErr (hAt h) es by unfold guessErr; rw [if_neg (by simp [h0])]; simp)
  obtain ⟨g1, g2⟩ := look_ok h0
  obtain ⟨g3, g4⟩ := posErr_ok g1
  obtain ⟨n1, n2, n3, n4⟩ := netErr_ok g3
  have ht : t < n := by have := g2 t (by simp); omega
  have hes := hide (show Right n es from n4)
  have hL := hide (fun a1 c1 w B hB hE hP => by have := rlook_any (n : Int) a cap es a1 c1 1 [(t : Int)] rfl w B hB hE hP hl (by omega); rw [h0] at this; exact this)
  replace hE := hide hE
  replace hH := hide hH
  clear h0 g1 g2 g3 g4 n4
  by_cases hlen : h.length = n
  · have hr := hide (show guessErr (n : Int) es (t : Int) h = if hErr h ≠ 0 then 1 else if hAt h t ≠ 0 then 7 else eErr (hAt h) es by rw [hr0.out, if_neg (by omega)])
    subst hlen
    clear hr0
    have hmm := hide (hErr_minmax (h := h) (by omega))
    have hv := hide (hErr_vals h)
    have hMin := hide (fun w B hE => smin_any ah ch h w B hE (by omega) hl2)
    have hMax := hide (fun w B hE => smax_any ah ch h w B hE (by omega) hl2)
    obtain ⟨mi, hmi⟩ : ∃ m, m = minL h := ⟨_, rfl⟩
    obtain ⟨ma, hma⟩ : ∃ m, m = maxL h := ⟨_, rfl⟩
    rw [← hmi] at hMin hmm
    rw [← hma] at hMax hmm
    replace hmi := hide hmi
    replace hma := hide hma
    go_enter Try.func107, Try.ntmps107
    go_wp2_with fail
    refine (hL.out _ _ _ (w.heap.size + 1 + 1 + 1) (by simp) ((hE.out.below ((by repeat (first | with_reducible exact Below.refl _ _ | with_reducible assumption | with_reducible refine up_drewN ?_ | with_reducible refine up_drew ?_ | (with_reducible refine up_alloc ?_ ?_; rotate_left; (first | omega | (simp <;> omega) | simp)) | (with_reducible refine up_set ?_ ?_; rotate_left; (first | omega | (simp <;> omega) | simp)) | (with_reducible refine Below.trans ?_ (Below.mono (by with_reducible assumption) ?_); rotate_left; (first | omega | (simp <;> omega) | simp)))) : Below w.heap.size w _) hB).mono (by omega)) ((row1 (by simp [go_sem])).mono (by simp))).mono ?_
    rintro e w1 ⟨rfl, hb1⟩
    have k0 : w1.cell? ⟨w.heap.size, 0, none⟩ = some (.int .i64 (h.length : Int)) := cu_below hb1 (by simp [go_sem]) (by simp <;> omega)
    have k1 : w1.cell? ⟨w.heap.size, 1, none⟩ = some (.slice a es.length cap) := cu_below hb1 (by simp [go_sem]) (by simp <;> omega)
    have k2 : w1.cell? ⟨w.heap.size + 1, 0, none⟩ = some (.slice ah h.length ch) := cu_below hb1 (by simp [go_sem]) (by simp <;> omega)
    have hbw := hide (unalloc (unalloc (unalloc (hb1.mono (by simp <;> omega)) (by simp <;> omega)) (by simp)) (Nat.le_refl _) : Below w.heap.size w w1)
    have hz1 : w.heap.size + 1 < w1.heap.size := cell_lt k2
    have hz0 : w.heap.size < w1.heap.size := by omega
    clear hb1
    have hH1 := hide (hH.out.below hbw.out hB)
    have hE1 := hide (hE.out.below hbw.out hB)
    by_cases q1 : mi < 0
    · have hr2 := hide (show guessErr (h.length : Int) es (t : Int) h = 1 by
        rw [hr.out, if_pos]; intro h0; have := (hmm.out.1 h0).1; omega)
      go_wp2_with fail
      refine (hMin.out _ B hH1.out).mono ?_
      rintro e w2 ⟨rfl, m2, rfl⟩
      go_wp2
      go_ret
      exact ⟨ret_int hr2.out.symm, up_drewN hbw.out⟩
    by_cases q2 : 1099511627776 < ma
    · have hr2 := hide (show guessErr (h.length : Int) es (t : Int) h = 1 by
        rw [hr.out, if_pos]; intro h0; have := (hmm.out.1 h0).2; omega)
      have q1' : 0 ≤ mi := by omega
      clear q1
      go_wp2_with fail
      refine (hMin.out _ B hH1.out).mono ?_
      rintro e w2 ⟨rfl, m2, rfl⟩
      go_wp2_with fail
      refine (hMax.out _ B (hH1.out.below (up_drewN (Below.refl _ _)) (by omega))).mono ?_
      rintro e w2 ⟨rfl, m3, rfl⟩
      go_wp2
      go_ret
      exact ⟨ret_int hr2.out.symm, up_drewN hbw.out⟩
    have hz : hErr h = 0 := hmm.out.2 ⟨by omega, by omega⟩
    have q1' : 0 ≤ mi := by omega
    have q2' : ma ≤ 1099511627776 := by omega
    have hf := hide (hAt_range hz)
    have hr2 := hide (show guessErr (h.length : Int) es (t : Int) h = if hAt h t ≠ 0 then 7 else eErr (hAt h) es by rw [hr.out, if_neg (by simp [hz])])
    have hHL : Row encI 1 w1 B ah (LI h.length (hAt h)) := by rw [li_hAt]; exact hH1.out
    clear hz hr hmm q1 q2
    have hC := hide (fun W (hb : Below w1.heap.size w1 W) => cg_any h.length (hAt h) ah ch (w.heap.size + 1) a cap es W B (Nat.le_trans (by omega) hb.size) (hE1.out.below hb (by omega)) n3 hes.out (hHL.below hb (by omega)) (cu_below hb k2 hz1) hf.out)
    have hev := hide (eIdx_err (hAt h) es 0).2
    obtain ⟨b, o, rfl, hbB, e1⟩ := hHL.atI t ht
    replace hHL := hide hHL
    have hbl := cell_lt e1
    have it : (0 : Int) ≤ (t : Int) ∧ (t : Int) < (h.length : Int) := by omega
    have g0 := hf.out t
    obtain ⟨x, hx⟩ : ∃ x, x = hAt h t := ⟨_, rfl⟩
    rw [← hx] at e1 g0
    replace hx := hide hx
    by_cases q : x = 0
    · subst q
      have hr3 := hide (show guessErr (h.length : Int) es (t : Int) h = eErr (hAt h) es by rw [hr2.out, if_neg (by simp [← hx.out])])
      obtain ⟨b7, hb7⟩ : ∃ b, b = decide (eErr (hAt h) es = 7) := ⟨_, rfl⟩
      rw [← hb7] at hC
      replace hb7 := hide hb7
      clear hr2 g0
      cases b7
      all_goals
        go_wp2_with fail
        refine (hMin.out _ B hH1.out).mono ?_
        rintro e w2 ⟨rfl, m2, rfl⟩
        go_wp2_with fail
        refine (hMax.out _ B (hH1.out.below (up_drewN (Below.refl _ _)) (by omega))).mono ?_
        rintro e w2 ⟨rfl, m3, rfl⟩
        go_wp2_with fail
        refine (hC.out _ (up_drewN (Below.refl _ _))).mono ?_
        rintro e w3 ⟨rfl, hb3⟩
        go_wp2
        go_ret
        refine ⟨ret_int ?_, (up_drewN hbw.out).trans (hb3.mono (by simp; omega))⟩
        have h1 := hb7.out
        have h2 := hev.out
        rw [hr3.out]
        rcases h2 with h2 | h2 <;> rw [h2] at h1 ⊢ <;> simp at h1
    · have hr3 := hide (show guessErr (h.length : Int) es (t : Int) h = 7 by rw [hr2.out, if_pos (by rw [← hx.out]; exact q)])
      have q3 : 0 < x := by omega
      clear q hr2 g0
      go_wp2_with fail
      refine (hMin.out _ B hH1.out).mono ?_
      rintro e w2 ⟨rfl, m2, rfl⟩
      go_wp2_with fail
      refine (hMax.out _ B (hH1.out.below (up_drewN (Below.refl _ _)) (by omega))).mono ?_
      rintro e w2 ⟨rfl, m3, rfl⟩
      go_wp2
      go_ret
      exact ⟨ret_int hr3.out.symm, up_drewN hbw.out⟩
  · have hr := hide (show guessErr (n : Int) es (t : Int) h = 1 by rw [hr0.out, if_pos (by omega)])
    have q0 : ((h.length : Int) != (n : Int)) = true := by simp; omega
    clear hr0 hlen
    go_enter Try.func107, Try.ntmps107
    go_wp2_with fail
    refine (hL.out _ _ _ (w.heap.size + 1 + 1 + 1) (by simp) ((hE.out.below ((by repeat (first | with_reducible exact Below.refl _ _ | with_reducible assumption | with_reducible refine up_drewN ?_ | with_reducible refine up_drew ?_ | (with_reducible refine up_alloc ?_ ?_; rotate_left; (first | omega | (simp <;> omega) | simp)) | (with_reducible refine up_set ?_ ?_; rotate_left; (first | omega | (simp <;> omega) | simp)) | (with_reducible refine Below.trans ?_ (Below.mono (by with_reducible assumption) ?_); rotate_left; (first | omega | (simp <;> omega) | simp)))) : Below w.heap.size w _) hB).mono (by omega)) ((row1 (by simp [go_sem])).mono (by simp))).mono ?_
    rintro e w1 ⟨rfl, hb1⟩
    have k0 : w1.cell? ⟨w.heap.size, 0, none⟩ = some (.int .i64 (n : Int)) := cu_below hb1 (by simp [go_sem]) (by simp <;> omega)
    have k2 : w1.cell? ⟨w.heap.size + 1, 0, none⟩ = some (.slice ah h.length ch) := cu_below hb1 (by simp [go_sem]) (by simp <;> omega)
    have hbw := hide (unalloc (unalloc (unalloc (hb1.mono (by simp <;> omega)) (by simp <;> omega)) (by simp)) (Nat.le_refl _) : Below w.heap.size w w1)
    have hz1 : w.heap.size + 1 < w1.heap.size := cell_lt k2
    have hz0 : w.heap.size < w1.heap.size := by omega
    clear hb1
    go_wp2
    go_ret
    exact ⟨ret_int hr.out.symm, hbw.out⟩
end Go.Proofs.Ytcehdpeeaogpiaa

/-! What star.Look and the reference's SearchLook return: the same. Conditions: that the arguments read. -/
namespace Go.Proofs.Ytcehdpeeaogpiaa
open Go.RowKit
set_option linter.unusedSimpArgs false
set_option linter.unusedVariables false
def slookErr (N : Int) (es : List Ed) (x1 x2 : Int) (h : List Int) : Int := if lookErr N es [x1, x2] ≠ 0 then lookErr N es [x1, x2] else guessErr N es x2 h
theorem slook_ok {N : Int} {es : List Ed} {x1 x2 : Int} (h0 : lookErr N es [x1, x2] = 0) (h : List Int) : ∃ n : Nat, N = (n : Int) ∧ 1 ≤ n ∧ n ≤ 64 ∧ (es.length ≤ 600 ∧ Right n es ∧ ∀ e ∈ es, 1 ≤ e.c) ∧ ∃ t : Nat, x2 = (t : Int) ∧ t < n ∧ lookErr N es [x2] = 0 ∧ slookErr N es x1 x2 h = guessErr N es x2 h := by
  obtain ⟨g1, g2⟩ := look_ok h0
  obtain ⟨g3, g4⟩ := posErr_ok g1
  obtain ⟨n1, n2, n3, n4⟩ := netErr_ok g3
  obtain ⟨n, rfl⟩ := Int.eq_ofNat_of_zero_le (show 0 ≤ N by omega)
  have g6 := g2 x2 (by simp)
  obtain ⟨t, rfl⟩ := Int.eq_ofNat_of_zero_le g6.1
  refine ⟨n, rfl, by omega, by omega, ⟨n3, n4, g4⟩, t, rfl, by omega, ?_, ?_⟩
  · unfold lookErr
    rw [if_neg (by simp [g1])]
    unfold plErr
    rw [if_neg (by omega)]
    rfl
  · unfold slookErr
    rw [if_neg (by simp [h0])]
/-- all that a search may lean on -/
theorem slook_all {N : Int} {es : List Ed} {x1 x2 : Int} {h : List Int} (h0 : slookErr N es x1 x2 h = 0) : ∃ n v t : Nat, N = (n : Int) ∧ x1 = (v : Int) ∧ x2 = (t : Int) ∧ 1 ≤ n ∧ n ≤ 64 ∧ es.length ≤ 600 ∧ Right n es ∧ (∀ e ∈ es, 1 ≤ e.c) ∧ v < n ∧ t < n ∧ h.length = n ∧ (∀ u, 0 ≤ hAt h u ∧ hAt h u ≤ 1099511627776) ∧ hAt h t = 0 ∧ eErr (hAt h) es = 0 := by
  by_cases hl : lookErr N es [x1, x2] = 0
  · obtain ⟨n, rfl, a1, a2, ⟨a3, a4, a5⟩, t, rfl, a6, a7, a8⟩ := slook_ok hl h
    have g5 := (look_ok hl).2 x1 (by simp)
    obtain ⟨v, rfl⟩ := Int.eq_ofNat_of_zero_le g5.1
    rw [a8] at h0
    unfold guessErr at h0
    rw [if_neg (by simp [a7])] at h0
    by_cases b1 : (h.length : Int) ≠ (n : Int)
    · rw [if_pos b1] at h0; omega
    · rw [if_neg b1] at h0
      by_cases b2 : hErr h ≠ 0
      · rw [if_pos b2] at h0; omega
      · rw [if_neg b2] at h0
        by_cases b3 : hAt h ((t : Int)).toNat ≠ 0
        · rw [if_pos b3] at h0; omega
        · rw [if_neg b3] at h0
          exact ⟨n, v, t, rfl, rfl, rfl, a1, a2, a3, a4, a5, by omega, a6, by omega, fun u => hAt_range (by simpa using b2) u, by simpa using b3, h0⟩
  · unfold slookErr at h0
    rw [if_pos hl] at h0
    exact absurd h0 hl
set_option maxHeartbeats 1000000 in
theorem slook_any (N : Int) (a : Option Addr) (cap : Nat) (es : List Ed) (x1 x2 : Int) (ah : Option Addr) (ch : Nat) (h : List Int) (w : World) (B : Nat) (hB : B ≤ w.heap.size) (hE : Row encE 3 w B a es) (hH : Row encI 1 w B ah h) (hl : es.length ≤ 9223372036854775807) (hl2 : h.length ≤ 9223372036854775807) :
    Calls Try.prog 40 #[.agg #[.int .i64 N, .slice a es.length cap], .int .i64 x1, .int .i64 x2, .slice ah h.length ch] w fun e w' => e = .returned (.int .i64 (slookErr N es x1 x2 h)) ∧ Below w.heap.size w w' := by
  have hL := hide (fun (b : Nat) (w : World) (hE : Row encE 3 w w.heap.size a es) (hP : Row encI 1 w w.heap.size (some ⟨b, 0, none⟩) [x1, x2]) => look_any N a cap es (some ⟨b, 0, none⟩) 2 2 [x1, x2] rfl w w.heap.size (Nat.le_refl _) hE hP hl (by omega))
  obtain ⟨er, her⟩ : ∃ er, er = lookErr N es [x1, x2] := ⟨_, rfl⟩
  by_cases h0 : lookErr N es [x1, x2] = 0
  · obtain ⟨n, rfl, _, _, _, t, rfl, _, h2, hr⟩ := slook_ok h0 h
    have hC := hide (fun (w' : World) (hb : Below w.heap.size w w') => hcheck_ok n a cap es t ah ch h w' B (Nat.le_trans hB hb.size) (hE.below hb hB) (hH.below hb hB) hl hl2 h2)
    obtain ⟨ge, hge⟩ : ∃ ge, ge = guessErr (n : Int) es (t : Int) h := ⟨_, rfl⟩
    have hfin := hide (show slookErr (n : Int) es x1 (t : Int) h = ge by rw [hr, hge])
    rw [← hge] at hC
    have hL2 : Hid (∀ (b : Nat) (w : World), Row encE 3 w w.heap.size a es → Row encI 1 w w.heap.size (some ⟨b, 0, none⟩) [x1, (t : Int)] → Calls Try.prog 23 #[.agg #[.int .i64 (n : Int), .slice a es.length cap], .slice (some ⟨b, 0, none⟩) 2 2] w fun e w' => e = .returned (.int .i64 0) ∧ Below w.heap.size w w') := hide (fun b w q1 q2 => by have := hL.out b w q1 q2; rw [h0] at this; exact this)
    have hrow := hide (fun (w' : World) (hb : Below w.heap.size w w') => (hE.below hb hB).mono (Nat.le_trans hB hb.size))
    clear hL h0 h2 hr hE hH
    replace hge := hide hge
    replace her := hide her
    go_enter Try.func40, Try.ntmps40
    go_wp2_with fail
    refine Calls.mono (hL2.out _ _ (hrow.out _ (by exact (by repeat (first | with_reducible exact Below.refl _ _ | with_reducible assumption | with_reducible refine up_drewN ?_ | with_reducible refine up_drew ?_ | (with_reducible refine up_alloc ?_ ?_; rotate_left; (first | omega | (simp <;> omega) | simp)) | (with_reducible refine up_set ?_ ?_; rotate_left; (first | omega | (simp <;> omega) | simp)) | (with_reducible refine Below.trans ?_ (Below.mono (by with_reducible assumption) ?_); rotate_left; (first | omega | (simp <;> omega) | simp)))))) (row2 (by simp [go_sem]) (by simp [go_sem]))) ?_
    rintro e w1 ⟨rfl, hb1⟩
    have k0 := cu_below hb1 (p := ⟨w.heap.size, 0, none⟩) (v := .int .i64 (n : Int)) (by simp [go_sem]) (by simp; omega)
    have k1 := cu_below hb1 (p := ⟨w.heap.size, 1, none⟩) (v := .slice a es.length cap) (by simp [go_sem]) (by simp; omega)
    have hb2 := hide ((((by repeat (first | with_reducible exact Below.refl _ _ | with_reducible assumption | with_reducible refine up_drewN ?_ | with_reducible refine up_drew ?_ | (with_reducible refine up_alloc ?_ ?_; rotate_left; (first | omega | (simp <;> omega) | simp)) | (with_reducible refine up_set ?_ ?_; rotate_left; (first | omega | (simp <;> omega) | simp)) | (with_reducible refine Below.trans ?_ (Below.mono (by with_reducible assumption) ?_); rotate_left; (first | omega | (simp <;> omega) | simp)))) : Below w.heap.size w _)).trans (hb1.mono (by simp; omega)))
    clear hb1
    go_wp2_with fail
    refine (hC.out _ hb2.out).mono ?_
    rintro e w2 ⟨rfl, hb3⟩
    go_wp2
    go_ret
    exact ⟨ret_int hfin.out.symm, hb2.out.trans (hb3.mono hb2.out.size)⟩
  · have hfin := hide (show slookErr N es x1 x2 h = er by unfold slookErr; rw [if_pos h0, her])
    have q0 : (er != 0) = true := by rw [her]; simpa using h0
    rw [← her] at hL
    have hrow := hide (fun (w' : World) (hb : Below w.heap.size w w') => (hE.below hb hB).mono (Nat.le_trans hB hb.size))
    clear h0 hE hH
    replace her := hide her
    go_enter Try.func40, Try.ntmps40
    go_wp2_with fail
    refine Calls.mono (hL.out _ _ (hrow.out _ (by exact (by repeat (first | with_reducible exact Below.refl _ _ | with_reducible assumption | with_reducible refine up_drewN ?_ | with_reducible refine up_drew ?_ | (with_reducible refine up_alloc ?_ ?_; rotate_left; (first | omega | (simp <;> omega) | simp)) | (with_reducible refine up_set ?_ ?_; rotate_left; (first | omega | (simp <;> omega) | simp)) | (with_reducible refine Below.trans ?_ (Below.mono (by with_reducible assumption) ?_); rotate_left; (first | omega | (simp <;> omega) | simp)))))) (row2 (by simp [go_sem]) (by simp [go_sem]))) ?_
    rintro e w1 ⟨rfl, hb1⟩
    have hb2 := hide ((((by repeat (first | with_reducible exact Below.refl _ _ | with_reducible assumption | with_reducible refine up_drewN ?_ | with_reducible refine up_drew ?_ | (with_reducible refine up_alloc ?_ ?_; rotate_left; (first | omega | (simp <;> omega) | simp)) | (with_reducible refine up_set ?_ ?_; rotate_left; (first | omega | (simp <;> omega) | simp)) | (with_reducible refine Below.trans ?_ (Below.mono (by with_reducible assumption) ?_); rotate_left; (first | omega | (simp <;> omega) | simp)))) : Below w.heap.size w _)).trans (hb1.mono (by simp; omega)))
    clear hb1
    go_wp2
    go_ret
    exact ⟨ret_int hfin.out.symm, hb2.out⟩
set_option maxHeartbeats 1000000 in
theorem rslook_any (N : Int) (a : Option Addr) (cap : Nat) (es : List Ed) (x1 x2 : Int) (ah : Option Addr) (ch : Nat) (h : List Int) (w : World) (B : Nat) (hB : B ≤ w.heap.size) (hE : Row encE 3 w B a es) (hH : Row encI 1 w B ah h) (hl : es.length ≤ 9223372036854775807) (hl2 : h.length ≤ 9223372036854775807) :
    Calls Try.prog 39 #[.agg #[.int .i64 N, .slice a es.length cap], .int .i64 x1, .int .i64 x2, .slice ah h.length ch] w fun e w' => e = .returned (.int .i64 (slookErr N es x1 x2 h)) ∧ Below w.heap.size w w' := by
  have hL := hide (fun (b : Nat) (w : World) (hE : Row encE 3 w w.heap.size a es) (hP : Row encI 1 w w.heap.size (some ⟨b, 0, none⟩) [x1, x2]) => rlook_any N a cap es (some ⟨b, 0, none⟩) 2 2 [x1, x2] rfl w w.heap.size (Nat.le_refl _) hE hP hl (by omega))
  obtain ⟨er, her⟩ : ∃ er, er = lookErr N es [x1, x2] := ⟨_, rfl⟩
  by_cases h0 : lookErr N es [x1, x2] = 0
  · obtain ⟨n, rfl, _, _, _, t, rfl, _, h2, hr⟩ := slook_ok h0 h
    have hC := hide (fun (w' : World) (hb : Below w.heap.size w w') => rguess_ok n a cap es t ah ch h w' B (Nat.le_trans hB hb.size) (hE.below hb hB) (hH.below hb hB) hl hl2 h2)
    obtain ⟨ge, hge⟩ : ∃ ge, ge = guessErr (n : Int) es (t : Int) h := ⟨_, rfl⟩
    have hfin := hide (show slookErr (n : Int) es x1 (t : Int) h = ge by rw [hr, hge])
    rw [← hge] at hC
    have hL2 : Hid (∀ (b : Nat) (w : World), Row encE 3 w w.heap.size a es → Row encI 1 w w.heap.size (some ⟨b, 0, none⟩) [x1, (t : Int)] → Calls Try.prog 45 #[.agg #[.int .i64 (n : Int), .slice a es.length cap], .slice (some ⟨b, 0, none⟩) 2 2] w fun e w' => e = .returned (.int .i64 0) ∧ Below w.heap.size w w') := hide (fun b w q1 q2 => by have := hL.out b w q1 q2; rw [h0] at this; exact this)
    have hrow := hide (fun (w' : World) (hb : Below w.heap.size w w') => (hE.below hb hB).mono (Nat.le_trans hB hb.size))
    clear hL h0 h2 hr hE hH
    replace hge := hide hge
    replace her := hide her
    go_enter Try.func39, Try.ntmps39
    go_wp2_with fail
    refine Calls.mono (hL2.out _ _ (hrow.out _ (by exact (by repeat (first | with_reducible exact Below.refl _ _ | with_reducible assumption | with_reducible refine up_drewN ?_ | with_reducible refine up_drew ?_ | (with_reducible refine up_alloc ?_ ?_; rotate_left; (first | omega | (simp <;> omega) | simp)) | (with_reducible refine up_set ?_ ?_; rotate_left; (first | omega | (simp <;> omega) | simp)) | (with_reducible refine Below.trans ?_ (Below.mono (by with_reducible assumption) ?_); rotate_left; (first | omega | (simp <;> omega) | simp)))))) (row2 (by simp [go_sem]) (by simp [go_sem]))) ?_
    rintro e w1 ⟨rfl, hb1⟩
    have k0 := cu_below hb1 (p := ⟨w.heap.size, 0, none⟩) (v := .int .i64 (n : Int)) (by simp [go_sem]) (by simp; omega)
    have k1 := cu_below hb1 (p := ⟨w.heap.size, 1, none⟩) (v := .slice a es.length cap) (by simp [go_sem]) (by simp; omega)
    have hb2 := hide ((((by repeat (first | with_reducible exact Below.refl _ _ | with_reducible assumption | with_reducible refine up_drewN ?_ | with_reducible refine up_drew ?_ | (with_reducible refine up_alloc ?_ ?_; rotate_left; (first | omega | (simp <;> omega) | simp)) | (with_reducible refine up_set ?_ ?_; rotate_left; (first | omega | (simp <;> omega) | simp)) | (with_reducible refine Below.trans ?_ (Below.mono (by with_reducible assumption) ?_); rotate_left; (first | omega | (simp <;> omega) | simp)))) : Below w.heap.size w _)).trans (hb1.mono (by simp; omega)))
    clear hb1
    go_wp2_with fail
    refine (hC.out _ hb2.out).mono ?_
    rintro e w2 ⟨rfl, hb3⟩
    go_wp2
    go_ret
    exact ⟨ret_int hfin.out.symm, hb2.out.trans (hb3.mono hb2.out.size)⟩
  · have hfin := hide (show slookErr N es x1 x2 h = er by unfold slookErr; rw [if_pos h0, her])
    have q0 : (er != 0) = true := by rw [her]; simpa using h0
    rw [← her] at hL
    have hrow := hide (fun (w' : World) (hb : Below w.heap.size w w') => (hE.below hb hB).mono (Nat.le_trans hB hb.size))
    clear h0 hE hH
    replace her := hide her
    go_enter Try.func39, Try.ntmps39
    go_wp2_with fail
    refine Calls.mono (hL.out _ _ (hrow.out _ (by exact (by repeat (first | with_reducible exact Below.refl _ _ | with_reducible assumption | with_reducible refine up_drewN ?_ | with_reducible refine up_drew ?_ | (with_reducible refine up_alloc ?_ ?_; rotate_left; (first | omega | (simp <;> omega) | simp)) | (with_reducible refine up_set ?_ ?_; rotate_left; (first | omega | (simp <;> omega) | simp)) | (with_reducible refine Below.trans ?_ (Below.mono (by with_reducible assumption) ?_); rotate_left; (first | omega | (simp <;> omega) | simp)))))) (row2 (by simp [go_sem]) (by simp [go_sem]))) ?_
    rintro e w1 ⟨rfl, hb1⟩
    have hb2 := hide ((((by repeat (first | with_reducible exact Below.refl _ _ | with_reducible assumption | with_reducible refine up_drewN ?_ | with_reducible refine up_drew ?_ | (with_reducible refine up_alloc ?_ ?_; rotate_left; (first | omega | (simp <;> omega) | simp)) | (with_reducible refine up_set ?_ ?_; rotate_left; (first | omega | (simp <;> omega) | simp)) | (with_reducible refine Below.trans ?_ (Below.mono (by with_reducible assumption) ?_); rotate_left; (first | omega | (simp <;> omega) | simp)))) : Below w.heap.size w _)).trans (hb1.mono (by simp; omega)))
    clear hb1
    go_wp2
    go_ret
    exact ⟨ret_int hfin.out.symm, hb2.out⟩
end Go.Proofs.Ytcehdpeeaogpiaa

/-! What the functions of package ratio, and the reference's functions on fractions, return. Conditions: bounds on the numbers, as each theorem says. -/
namespace Go.Proofs.Ytcehdpeeaogpiaa
open Go.RowKit
set_option linter.unusedSimpArgs false
set_option linter.unusedVariables false

/-! ### plain numbers -/
def ratWithin (n : Int) : Bool := decide (-1000000 ≤ n ∧ n ≤ 1000000)
def gcdI (a b : Int) : Int := Int.gcd a b
theorem gcd_step (a b : Int) : gcdI b (a.tmod b) = gcdI a b := by
  simp only [gcdI, Int.gcd, Int.natAbs_tmod]
  rw [Nat.gcd_comm a.natAbs, Nat.gcd_rec b.natAbs a.natAbs, Nat.gcd_comm]
theorem tmod_abs (a b : Int) (h : b ≠ 0) : (a.tmod b).natAbs < b.natAbs := by
  rw [Int.natAbs_tmod]; exact Nat.mod_lt _ (by omega)
theorem gcd_zero (a : Int) : gcdI a 0 = max a (-a) := by
  unfold gcdI; simp; omega
theorem gcdI_pos (a b : Int) (h : 1 ≤ b) : 1 ≤ gcdI a b ∧ gcdI a b ≤ b := by
  unfold gcdI
  have h1 : 0 < Int.gcd a b := Int.gcd_pos_of_ne_zero_right _ (by omega)
  have h2 := Int.gcd_le_right a (show 0 < b by omega)
  omega

theorem within_any (n : Int) (w : World) : Calls Try.prog 211 #[.int .i64 n] w fun e w' => e = .returned (.bool (ratWithin n)) ∧ w = w' := by
  go_enter Try.func211, Try.ntmps211
  go_wp2
  all_goals
    go_ret
    refine ⟨?_, rfl⟩
    simp [ratWithin]
    try omega

theorem gcd_any (a b : Int) (ha : -4611686018427387904 ≤ a ∧ a ≤ 4611686018427387904) (hb : -4611686018427387904 ≤ b ∧ b ≤ 4611686018427387904) (w : World) :
    Calls Try.prog 227 #[.int .i64 a, .int .i64 b] w fun e w' => e = .returned (.int .i64 (gcdI a b)) ∧ ∃ n, w' = w.drewN n := by
  go_enter Try.func227, Try.ntmps227
  go_wp2
  go_loopw [0, 1] (fun x y wr => ∃ p q : Int, x = .int .i64 p ∧ y = .int .i64 q ∧ Hid (gcdI p q = gcdI a b) ∧ -4611686018427387904 ≤ p ∧ p ≤ 4611686018427387904 ∧ -4611686018427387904 ≤ q ∧ q ≤ 4611686018427387904 ∧ Hid (∃ n, wr = w.drewN n))
    (fun _ y _ => (intOf y).natAbs)
  case atStart => exact ⟨a, b, rfl, rfl, rfl, ha.1, ha.2, hb.1, hb.2, ⟨0, rfl⟩⟩
  case round =>
    obtain ⟨p, q, rfl, rfl, hg, hp1, hp2, hq1, hq2, hw⟩ := hrel
    by_cases h0 : q = 0
    · subst h0
      go_wp2
      all_goals
        go_ret
        refine ⟨ret_int ?_, hw.out⟩
        rw [← hg.out, gcd_zero]
        omega
    · have hq : (q == 0) = false := by simpa using h0
      have hq' : (q != 0) = true := by simpa using h0
      go_wp2
      go_quiet (fail)
      go_wp2
      go_roundw
      case rel =>
        refine ⟨q, p.tmod q, rfl, rfl, ?_, hq1, hq2, ?_, ?_, ?_⟩
        · rw [Hid, gcd_step]; exact hg.out
        · have := tmod_abs p q h0; omega
        · have := tmod_abs p q h0; omega
        · obtain ⟨n, hn⟩ := hw.out; exact ⟨n + nq, by rw [hn]; simp⟩
      case measure => simp only [intOf]; exact tmod_abs p q h0

def lst (n d : Int) : P2 := ⟨n.tdiv (gcdI n d), d / gcdI n d⟩
theorem least_any (n d : Int) (hn : -4611686018427387904 ≤ n ∧ n ≤ 4611686018427387904) (hd : 1 ≤ d ∧ d ≤ 4611686018427387904) (w : World) :
    Calls Try.prog 212 #[.int .i64 n, .int .i64 d] w fun e w' => e = .returned (.agg #[.int .i64 (lst n d).a, .int .i64 (lst n d).b]) ∧ Below w.heap.size w w' := by
  have hg := gcdI_pos n d hd.1
  go_enter Try.func212, Try.ntmps212
  go_wp2_with (go_at_call 227; refine (gcd_any _ _ (by omega) (by omega) _).mono ?_; rintro e w' ⟨rfl, m, rfl⟩)
  go_region
  all_goals
    go_wp2
    exact bodyPost_ret (v := .agg #[.int .i64 (lst n d).a, .int .i64 (lst n d).b]) (by simp [results, Try.results212, go_sem, lst]) rfl ⟨rfl, (by repeat (first | with_reducible exact Below.refl _ _ | with_reducible assumption | with_reducible refine up_drewN ?_ | with_reducible refine up_drew ?_ | (with_reducible refine up_alloc ?_ ?_; rotate_left; (first | omega | (simp <;> omega) | simp)) | (with_reducible refine up_set ?_ ?_; rotate_left; (first | omega | (simp <;> omega) | simp)) | (with_reducible refine Below.trans ?_ (Below.mono (by with_reducible assumption) ?_); rotate_left; (first | omega | (simp <;> omega) | simp))))⟩

def mkErr (n d : Int) : Int := if d < 1 ∨ ratWithin n = false ∨ ratWithin d = false then 1 else 0
def mkVal (n d : Int) : P2 := if d < 1 ∨ ratWithin n = false ∨ ratWithin d = false then ⟨0, 0⟩ else lst n d
theorem ratWithin_iff (n : Int) : ratWithin n = true ↔ -1000000 ≤ n ∧ n ≤ 1000000 := by simp [ratWithin]
theorem ratWithin_not (n : Int) : ratWithin n = false ↔ ¬ (-1000000 ≤ n ∧ n ≤ 1000000) := by simp [ratWithin]
theorem make_any (n d : Int) (w : World) :
    Calls Try.prog 188 #[.int .i64 n, .int .i64 d] w fun e w' => e = .returned (.tuple #[.agg #[.int .i64 (mkVal n d).a, .int .i64 (mkVal n d).b], .int .i64 (mkErr n d)]) ∧ Below w.heap.size w w' := by
  by_cases h : d < 1 ∨ ratWithin n = false ∨ ratWithin d = false
  · have he : mkErr n d = 1 := by simp [mkErr, h]
    have hv : mkVal n d = ⟨0, 0⟩ := by simp [mkVal, h]
    rw [he, hv]
    clear he hv
    by_cases h1 : d < 1
    · go_enter Try.func188, Try.ntmps188
      go_wp2
      exact bodyPost_ret (v := .tuple #[.agg #[.int .i64 0, .int .i64 0], .int .i64 1]) (by simp [results, Try.results188, go_sem]) rfl ⟨rfl, (by repeat (first | with_reducible exact Below.refl _ _ | with_reducible assumption | with_reducible refine up_drewN ?_ | with_reducible refine up_drew ?_ | (with_reducible refine up_alloc ?_ ?_; rotate_left; (first | omega | (simp <;> omega) | simp)) | (with_reducible refine up_set ?_ ?_; rotate_left; (first | omega | (simp <;> omega) | simp)) | (with_reducible refine Below.trans ?_ (Below.mono (by with_reducible assumption) ?_); rotate_left; (first | omega | (simp <;> omega) | simp))))⟩
    · by_cases h2 : ratWithin n = false
      · clear h
        go_enter Try.func188, Try.ntmps188
        go_wp2_with (go_at_call 211; refine (within_any _ _).mono ?_; rintro e w' ⟨rfl, rfl⟩)
        exact bodyPost_ret (v := .tuple #[.agg #[.int .i64 0, .int .i64 0], .int .i64 1]) (by simp [results, Try.results188, go_sem]) rfl ⟨rfl, (by repeat (first | with_reducible exact Below.refl _ _ | with_reducible assumption | with_reducible refine up_drewN ?_ | with_reducible refine up_drew ?_ | (with_reducible refine up_alloc ?_ ?_; rotate_left; (first | omega | (simp <;> omega) | simp)) | (with_reducible refine up_set ?_ ?_; rotate_left; (first | omega | (simp <;> omega) | simp)) | (with_reducible refine Below.trans ?_ (Below.mono (by with_reducible assumption) ?_); rotate_left; (first | omega | (simp <;> omega) | simp))))⟩
      · have h3 : ratWithin d = false := by simp [h1, h2] at h; exact h
        have h2' : ratWithin n = true := by simpa using h2
        clear h h2
        go_enter Try.func188, Try.ntmps188
        go_wp2_with (go_at_call 211; refine (within_any _ _).mono ?_; rintro e w' ⟨rfl, rfl⟩)
        exact bodyPost_ret (v := .tuple #[.agg #[.int .i64 0, .int .i64 0], .int .i64 1]) (by simp [results, Try.results188, go_sem]) rfl ⟨rfl, (by repeat (first | with_reducible exact Below.refl _ _ | with_reducible assumption | with_reducible refine up_drewN ?_ | with_reducible refine up_drew ?_ | (with_reducible refine up_alloc ?_ ?_; rotate_left; (first | omega | (simp <;> omega) | simp)) | (with_reducible refine up_set ?_ ?_; rotate_left; (first | omega | (simp <;> omega) | simp)) | (with_reducible refine Below.trans ?_ (Below.mono (by with_reducible assumption) ?_); rotate_left; (first | omega | (simp <;> omega) | simp))))⟩
  · have he : mkErr n d = 0 := by simp only [mkErr]; rw [if_neg h]
    have hv : mkVal n d = lst n d := by simp only [mkVal]; rw [if_neg h]
    rw [he, hv]
    clear he hv
    simp only [not_or, Bool.not_eq_false] at h
    obtain ⟨h1, h2, h3⟩ := h
    have b2 := (ratWithin_iff n).1 h2
    have b3 := (ratWithin_iff d).1 h3
    go_enter Try.func188, Try.ntmps188
    go_wp2_with (first | (go_at_call 211; refine (within_any _ _).mono ?_; rintro e w' ⟨rfl, rfl⟩) | (go_at_call 212; refine (least_any _ _ (by omega) (by omega) _).mono ?_; rintro e w1 ⟨rfl, hb⟩; obtain ⟨hc, hf⟩ := bcell hb; have hz := hb.size; simp at hz; have hz2 : w.heap.size < w1.heap.size := by omega))
    exact bodyPost_ret (v := .tuple #[.agg #[.int .i64 (lst n d).a, .int .i64 (lst n d).b], .int .i64 0]) (by simp [results, Try.results188, go_sem, hc, hz2]) rfl ⟨rfl, (by repeat (first | with_reducible exact Below.refl _ _ | with_reducible assumption | with_reducible refine up_drewN ?_ | with_reducible refine up_drew ?_ | (with_reducible refine up_alloc ?_ ?_; rotate_left; (first | omega | (simp <;> omega) | simp)) | (with_reducible refine up_set ?_ ?_; rotate_left; (first | omega | (simp <;> omega) | simp)) | (with_reducible refine Below.trans ?_ (Below.mono (by with_reducible assumption) ?_); rotate_left; (first | omega | (simp <;> omega) | simp))))⟩

def chk (r : P2) : Int := if mkErr r.a r.b ≠ 0 ∨ (mkVal r.a r.b).a ≠ r.a ∨ (mkVal r.a r.b).b ≠ r.b then 3 else 0
theorem chk_any (r : P2) (w : World) :
    Calls Try.prog 129 #[.agg #[.int .i64 r.a, .int .i64 r.b]] w fun e w' => e = .returned (.int .i64 (chk r)) ∧ Below w.heap.size w w' := by
  go_enter Try.func129, Try.ntmps129
  go_wp2_with (go_at_call 188; refine (make_any _ _ _).mono ?_; rintro e w1 ⟨rfl, hb⟩; obtain ⟨hc, hf⟩ := bcell hb; have hz := hb.size; simp at hz; have hz2 : w.heap.size < w1.heap.size := by omega)
  all_goals
    go_ret
    refine ⟨ret_int ?_, (by repeat (first | with_reducible exact Below.refl _ _ | with_reducible assumption | with_reducible refine up_drewN ?_ | with_reducible refine up_drew ?_ | (with_reducible refine up_alloc ?_ ?_; rotate_left; (first | omega | (simp <;> omega) | simp)) | (with_reducible refine up_set ?_ ?_; rotate_left; (first | omega | (simp <;> omega) | simp)) | (with_reducible refine Below.trans ?_ (Below.mono (by with_reducible assumption) ?_); rotate_left; (first | omega | (simp <;> omega) | simp))))⟩
    simp only [chk]
    split <;> omega

end Go.Proofs.Ytcehdpeeaogpiaa

/-! What the reference's functions on fractions return. Conditions: bounds on the numbers, as each theorem says. -/
namespace Go.Proofs.Ytcehdpeeaogpiaa
open Go.RowKit
set_option linter.unusedSimpArgs false
set_option linter.unusedVariables false


theorem part_any (n : Int) (w : World) : Calls Try.prog 189 #[.int .i64 n] w fun e w' => e = .returned (.bool (ratWithin n)) ∧ w' = w := by
  go_enter Try.func189, Try.ntmps189
  go_wp2
  all_goals
    go_ret
    refine ⟨?_, rfl⟩
    simp [ratWithin]
    try omega

def absI (n : Int) : Int := if n < 0 then -n else n
theorem gcd_abs (n d : Int) : gcdI (absI n) d = gcdI n d := by
  unfold gcdI absI Int.gcd; split <;> simp
theorem size_any (n : Int) (hn : -9223372036854775807 ≤ n ∧ n ≤ 9223372036854775807) (w : World) : Calls Try.prog 191 #[.int .i64 n] w fun e w' => e = .returned (.int .i64 (absI n)) ∧ w' = w := by
  go_enter Try.func191, Try.ntmps191
  go_wp2
  all_goals
    go_ret
    refine ⟨ret_int ?_, rfl⟩
    simp only [absI]
    split <;> omega

theorem common_any (k : Nat) : ∀ (a b : Int) (w : World), 0 ≤ a → a ≤ 4611686018427387904 → 0 ≤ b → b ≤ 4611686018427387904 → b.toNat ≤ k →
    Calls Try.prog 190 #[.int .i64 a, .int .i64 b] w fun e w' => e = .returned (.int .i64 (gcdI a b)) ∧ w' = w := by
  induction k with
  | zero =>
    intro a b w ha ha2 hb hb2 hk
    obtain rfl : b = 0 := by omega
    have hg : Hid (gcdI a 0 = a) := by rw [Hid, gcd_zero]; omega
    go_enter Try.func190, Try.ntmps190
    go_wp2_with fail
    go_ret
    exact ⟨ret_int hg.out.symm, rfl⟩
  | succ k ih =>
    intro a b w ha ha2 hb hb2 hk
    by_cases h0 : b = 0
    · subst h0
      have hg : Hid (gcdI a 0 = a) := by rw [Hid, gcd_zero]; omega
      clear ih
      go_enter Try.func190, Try.ntmps190
      go_wp2_with fail
      go_ret
      exact ⟨ret_int hg.out.symm, rfl⟩
    · have q0 : (b == 0) = false := by simpa using h0
      have hm := tmod_abs a b h0
      have hm2 := Int.tmod_nonneg b ha
      have hi := hide (ih b (a.tmod b) w hb hb2 hm2 (by omega) (by omega))
      have hg := hide (gcd_step a b)
      have e : a % b = a.tmod b := (Int.tmod_eq_emod_of_nonneg ha).symm
      have he := hide e
      clear ih h0 e
      go_enter Try.func190, Try.ntmps190
      go_wp2_with fail
      rw [he.out]
      refine hi.out.mono ?_
      rintro e w1 ⟨rfl, rfl⟩
      go_wp2_with fail
      go_ret
      exact ⟨ret_int hg.out, rfl⟩

def rchk (r : P2) : Int := if r.b < 1 ∨ ratWithin r.b = false ∨ ratWithin r.a = false ∨ gcdI r.a r.b ≠ 1 then 3 else 0
theorem rchk_any (r : P2) (w : World) :
    Calls Try.prog 130 #[.agg #[.int .i64 r.a, .int .i64 r.b]] w fun e w' => e = .returned (.int .i64 (rchk r)) ∧ Below w.heap.size w w' := by
  by_cases h1 : r.b < 1
  · have hr := hide (show rchk r = 3 by simp [rchk, h1])
    go_enter Try.func130, Try.ntmps130
    go_wp2_with fail
    go_quiet (fail)
    go_wp2
    go_ret
    exact ⟨ret_int hr.out.symm, (by repeat (first | with_reducible exact Below.refl _ _ | with_reducible assumption | with_reducible refine up_drewN ?_ | with_reducible refine up_drew ?_ | (with_reducible refine up_alloc ?_ ?_; rotate_left; (first | omega | (simp <;> omega) | simp)) | (with_reducible refine up_set ?_ ?_; rotate_left; (first | omega | (simp <;> omega) | simp)) | (with_reducible refine Below.trans ?_ (Below.mono (by with_reducible assumption) ?_); rotate_left; (first | omega | (simp <;> omega) | simp))))⟩
  have d1 : decide (r.b < 1) = false := by simpa using h1
  by_cases h2 : ratWithin r.b = false
  · have hr := hide (show rchk r = 3 by simp [rchk, h2])
    go_enter Try.func130, Try.ntmps130
    go_wp2_with fail
    go_quiet ((go_at_call 189; exact Calls.quiet_of_same (part_any _ _)))
    go_wp2
    go_ret
    exact ⟨ret_int hr.out.symm, (by repeat (first | with_reducible exact Below.refl _ _ | with_reducible assumption | with_reducible refine up_drewN ?_ | with_reducible refine up_drew ?_ | (with_reducible refine up_alloc ?_ ?_; rotate_left; (first | omega | (simp <;> omega) | simp)) | (with_reducible refine up_set ?_ ?_; rotate_left; (first | omega | (simp <;> omega) | simp)) | (with_reducible refine Below.trans ?_ (Below.mono (by with_reducible assumption) ?_); rotate_left; (first | omega | (simp <;> omega) | simp))))⟩
  rw [Bool.not_eq_false] at h2
  by_cases h3 : ratWithin r.a = false
  · have hr := hide (show rchk r = 3 by simp [rchk, h3])
    go_enter Try.func130, Try.ntmps130
    go_wp2_with fail
    go_quiet ((go_at_call 189; exact Calls.quiet_of_same (part_any _ _)))
    go_wp2
    go_ret
    exact ⟨ret_int hr.out.symm, (by repeat (first | with_reducible exact Below.refl _ _ | with_reducible assumption | with_reducible refine up_drewN ?_ | with_reducible refine up_drew ?_ | (with_reducible refine up_alloc ?_ ?_; rotate_left; (first | omega | (simp <;> omega) | simp)) | (with_reducible refine up_set ?_ ?_; rotate_left; (first | omega | (simp <;> omega) | simp)) | (with_reducible refine Below.trans ?_ (Below.mono (by with_reducible assumption) ?_); rotate_left; (first | omega | (simp <;> omega) | simp))))⟩
  rw [Bool.not_eq_false] at h3
  have b2 := (ratWithin_iff _).1 h2
  have b3 := (ratWithin_iff _).1 h3
  have ha : 0 ≤ absI r.a ∧ absI r.a ≤ 4611686018427387904 := by unfold absI; split <;> omega
  have hc := fun (w : World) => common_any r.b.toNat (absI r.a) r.b w (by omega) (by omega) (by omega) (by omega) (by omega)
  rw [gcd_abs] at hc
  have hC := hide hc
  clear hc
  by_cases h4 : gcdI r.a r.b = 1
  · have hr := hide (show rchk r = 0 by simp only [rchk]; rw [if_neg]; simp [h2, h3, h4]; omega)
    have h5 : (gcdI r.a r.b != 1) = false := by simp [h4]
    clear h4
    go_enter Try.func130, Try.ntmps130
    go_wp2_with fail
    go_quiet (first | (go_at_call 189; exact Calls.quiet_of_same (part_any _ _)) | (go_at_call 191; exact Calls.quiet_of_same (size_any _ (by omega) _)) | (go_at_call 190; exact Calls.quiet_of_same (hC.out _)))
    go_wp2
    go_ret
    exact ⟨ret_int hr.out.symm, (by repeat (first | with_reducible exact Below.refl _ _ | with_reducible assumption | with_reducible refine up_drewN ?_ | with_reducible refine up_drew ?_ | (with_reducible refine up_alloc ?_ ?_; rotate_left; (first | omega | (simp <;> omega) | simp)) | (with_reducible refine up_set ?_ ?_; rotate_left; (first | omega | (simp <;> omega) | simp)) | (with_reducible refine Below.trans ?_ (Below.mono (by with_reducible assumption) ?_); rotate_left; (first | omega | (simp <;> omega) | simp))))⟩
  · have hr := hide (show rchk r = 3 by simp [rchk, h4])
    have h5 : (gcdI r.a r.b != 1) = true := by simp [h4]
    clear h4
    go_enter Try.func130, Try.ntmps130
    go_wp2_with fail
    go_quiet (first | (go_at_call 189; exact Calls.quiet_of_same (part_any _ _)) | (go_at_call 191; exact Calls.quiet_of_same (size_any _ (by omega) _)) | (go_at_call 190; exact Calls.quiet_of_same (hC.out _)))
    go_wp2
    go_ret
    exact ⟨ret_int hr.out.symm, (by repeat (first | with_reducible exact Below.refl _ _ | with_reducible assumption | with_reducible refine up_drewN ?_ | with_reducible refine up_drew ?_ | (with_reducible refine up_alloc ?_ ?_; rotate_left; (first | omega | (simp <;> omega) | simp)) | (with_reducible refine up_set ?_ ?_; rotate_left; (first | omega | (simp <;> omega) | simp)) | (with_reducible refine Below.trans ?_ (Below.mono (by with_reducible assumption) ?_); rotate_left; (first | omega | (simp <;> omega) | simp))))⟩

end Go.Proofs.Ytcehdpeeaogpiaa

/-! The check of a fraction and the reference's check are one. No condition. -/
namespace Go.Proofs.Ytcehdpeeaogpiaa
theorem chk_rchk (r : P2) : chk r = rchk r := by
  by_cases h : r.b < 1 ∨ ratWithin r.a = false ∨ ratWithin r.b = false
  · have e1 : mkErr r.a r.b = 1 := by simp [mkErr, h]
    have e2 : chk r = 3 := by simp [chk, e1]
    rw [e2]
    simp only [rchk]
    rw [if_pos]
    rcases h with h | h | h <;> simp [h]
  · have e1 : mkErr r.a r.b = 0 := by simp only [mkErr]; rw [if_neg h]
    have e2 : mkVal r.a r.b = lst r.a r.b := by simp only [mkVal]; rw [if_neg h]
    simp only [not_or, Bool.not_eq_false] at h
    have hg := gcdI_pos r.a r.b (by omega)
    simp only [chk, rchk, e1, e2, lst, h.2.1, h.2.2]
    by_cases g1 : gcdI r.a r.b = 1
    · simp [g1]; omega
    · have hd : (gcdI r.a r.b) ∣ r.b := by unfold gcdI; exact Int.gcd_dvd_right ..
      have : r.b / gcdI r.a r.b ≠ r.b := by
        intro hh
        have h2 := Int.ediv_mul_cancel hd
        rw [hh] at h2
        have h3 : r.b * gcdI r.a r.b = r.b * 1 := by omega
        have := Int.eq_of_mul_eq_mul_left (by omega) h3
        exact g1 this
      simp [this, g1]

end Go.Proofs.Ytcehdpeeaogpiaa

/-! What weigh.Weight and the reference's Weight return: the same. No condition. -/
namespace Go.Proofs.Ytcehdpeeaogpiaa
open Go.RowKit
set_option linter.unusedSimpArgs false
set_option linter.unusedVariables false
def weighErr (r : P2) : Int := if chk r ≠ 0 then chk r else if r.a < r.b then 1 else 0
theorem weighErr_ok {r : P2} (h : weighErr r = 0) : 1 ≤ r.b ∧ r.b ≤ r.a ∧ r.a ≤ 1000000 := by
  unfold weighErr at h
  by_cases h1 : chk r = 0
  · rw [if_neg (by simpa using h1)] at h
    rw [chk_rchk] at h1
    unfold rchk at h1
    split at h1
    · omega
    · rename_i hc
      simp only [not_or, Int.not_lt, Bool.not_eq_false] at hc
      have h2 := (ratWithin_iff r.a).1 hc.2.2.1
      by_cases h3 : r.a < r.b
      · rw [if_pos h3] at h; omega
      · omega
  · rw [if_pos h1] at h; exact absurd h h1
theorem weight_any (r : P2) (w : World) : Calls Try.prog 56 #[.agg #[.int .i64 r.a, .int .i64 r.b]] w fun e w' => e = .returned (.int .i64 (weighErr r)) ∧ Below w.heap.size w w' := by
  have hC := hide (fun w => chk_any r w)
  obtain ⟨a, b⟩ := r
  simp only
  by_cases h0 : chk ⟨a, b⟩ = 0
  · have hr : weighErr ⟨a, b⟩ = if a < b then 1 else 0 := by unfold weighErr; rw [if_neg (by simpa using h0)]
    rw [hr]
    simp only [h0] at hC
    clear hr h0
    go_enter Try.func56, Try.ntmps56
    by_cases h1 : a < b
    · rw [if_pos h1]
      go_wp2_with fail
      refine (hC.out _).mono ?_
      rintro e w1 ⟨rfl, hb1⟩
      have k0 := cu_below hb1 (p := ⟨w.heap.size, 0, none⟩) (v := .int .i64 a) (by simp [go_sem]) (by simp)
      have k1 := cu_below hb1 (p := ⟨w.heap.size, 1, none⟩) (v := .int .i64 b) (by simp [go_sem]) (by simp)
      have hb2 := hide ((((by repeat (first | with_reducible exact Below.refl _ _ | with_reducible assumption | with_reducible refine up_drewN ?_ | with_reducible refine up_drew ?_ | (with_reducible refine up_alloc ?_ ?_; rotate_left; (first | omega | (simp <;> omega) | simp)) | (with_reducible refine up_set ?_ ?_; rotate_left; (first | omega | (simp <;> omega) | simp)) | (with_reducible refine Below.trans ?_ (Below.mono (by with_reducible assumption) ?_); rotate_left; (first | omega | (simp <;> omega) | simp)))) : Below w.heap.size w _)).trans (hb1.mono (by simp)))
      clear hb1
      go_wp2
      go_ret
      exact ⟨rfl, hb2.out⟩
    · rw [if_neg h1]
      go_wp2_with fail
      refine (hC.out _).mono ?_
      rintro e w1 ⟨rfl, hb1⟩
      have k0 := cu_below hb1 (p := ⟨w.heap.size, 0, none⟩) (v := .int .i64 a) (by simp [go_sem]) (by simp)
      have k1 := cu_below hb1 (p := ⟨w.heap.size, 1, none⟩) (v := .int .i64 b) (by simp [go_sem]) (by simp)
      have hb2 := hide ((((by repeat (first | with_reducible exact Below.refl _ _ | with_reducible assumption | with_reducible refine up_drewN ?_ | with_reducible refine up_drew ?_ | (with_reducible refine up_alloc ?_ ?_; rotate_left; (first | omega | (simp <;> omega) | simp)) | (with_reducible refine up_set ?_ ?_; rotate_left; (first | omega | (simp <;> omega) | simp)) | (with_reducible refine Below.trans ?_ (Below.mono (by with_reducible assumption) ?_); rotate_left; (first | omega | (simp <;> omega) | simp)))) : Below w.heap.size w _)).trans (hb1.mono (by simp)))
      clear hb1
      go_wp2
      go_ret
      exact ⟨rfl, hb2.out⟩
  · obtain ⟨er, her⟩ : ∃ er, er = chk ⟨a, b⟩ := ⟨_, rfl⟩
    have hr : weighErr ⟨a, b⟩ = er := by unfold weighErr; rw [if_pos h0, her]
    rw [hr]
    rw [← her] at hC h0
    have q0 : (er != 0) = true := by simpa using h0
    clear hr h0 her
    go_enter Try.func56, Try.ntmps56
    go_wp2_with fail
    refine (hC.out _).mono ?_
    rintro e w1 ⟨rfl, hb1⟩
    have hb2 := hide ((((by repeat (first | with_reducible exact Below.refl _ _ | with_reducible assumption | with_reducible refine up_drewN ?_ | with_reducible refine up_drew ?_ | (with_reducible refine up_alloc ?_ ?_; rotate_left; (first | omega | (simp <;> omega) | simp)) | (with_reducible refine up_set ?_ ?_; rotate_left; (first | omega | (simp <;> omega) | simp)) | (with_reducible refine Below.trans ?_ (Below.mono (by with_reducible assumption) ?_); rotate_left; (first | omega | (simp <;> omega) | simp)))) : Below w.heap.size w _)).trans (hb1.mono (by simp)))
    clear hb1
    go_wp2
    go_ret
    exact ⟨rfl, hb2.out⟩
theorem rweight_any (r : P2) (w : World) : Calls Try.prog 57 #[.agg #[.int .i64 r.a, .int .i64 r.b]] w fun e w' => e = .returned (.int .i64 (weighErr r)) ∧ Below w.heap.size w w' := by
  have hC := hide (fun w => rchk_any r w)
  rw [← chk_rchk] at hC
  obtain ⟨a, b⟩ := r
  simp only
  by_cases h0 : chk ⟨a, b⟩ = 0
  · have hr : weighErr ⟨a, b⟩ = if a < b then 1 else 0 := by unfold weighErr; rw [if_neg (by simpa using h0)]
    rw [hr]
    simp only [h0] at hC
    clear hr h0
    go_enter Try.func57, Try.ntmps57
    by_cases h1 : a < b
    · rw [if_pos h1]
      go_wp2_with fail
      refine (hC.out _).mono ?_
      rintro e w1 ⟨rfl, hb1⟩
      have k0 := cu_below hb1 (p := ⟨w.heap.size, 0, none⟩) (v := .int .i64 a) (by simp [go_sem]) (by simp)
      have k1 := cu_below hb1 (p := ⟨w.heap.size, 1, none⟩) (v := .int .i64 b) (by simp [go_sem]) (by simp)
      have hb2 := hide ((((by repeat (first | with_reducible exact Below.refl _ _ | with_reducible assumption | with_reducible refine up_drewN ?_ | with_reducible refine up_drew ?_ | (with_reducible refine up_alloc ?_ ?_; rotate_left; (first | omega | (simp <;> omega) | simp)) | (with_reducible refine up_set ?_ ?_; rotate_left; (first | omega | (simp <;> omega) | simp)) | (with_reducible refine Below.trans ?_ (Below.mono (by with_reducible assumption) ?_); rotate_left; (first | omega | (simp <;> omega) | simp)))) : Below w.heap.size w _)).trans (hb1.mono (by simp)))
      clear hb1
      go_wp2
      go_ret
      exact ⟨rfl, hb2.out⟩
    · rw [if_neg h1]
      go_wp2_with fail
      refine (hC.out _).mono ?_
      rintro e w1 ⟨rfl, hb1⟩
      have k0 := cu_below hb1 (p := ⟨w.heap.size, 0, none⟩) (v := .int .i64 a) (by simp [go_sem]) (by simp)
      have k1 := cu_below hb1 (p := ⟨w.heap.size, 1, none⟩) (v := .int .i64 b) (by simp [go_sem]) (by simp)
      have hb2 := hide ((((by repeat (first | with_reducible exact Below.refl _ _ | with_reducible assumption | with_reducible refine up_drewN ?_ | with_reducible refine up_drew ?_ | (with_reducible refine up_alloc ?_ ?_; rotate_left; (first | omega | (simp <;> omega) | simp)) | (with_reducible refine up_set ?_ ?_; rotate_left; (first | omega | (simp <;> omega) | simp)) | (with_reducible refine Below.trans ?_ (Below.mono (by with_reducible assumption) ?_); rotate_left; (first | omega | (simp <;> omega) | simp)))) : Below w.heap.size w _)).trans (hb1.mono (by simp)))
      clear hb1
      go_wp2
      go_ret
      exact ⟨rfl, hb2.out⟩
  · obtain ⟨er, her⟩ : ∃ er, er = chk ⟨a, b⟩ := ⟨_, rfl⟩
    have hr : weighErr ⟨a, b⟩ = er := by unfold weighErr; rw [if_pos h0, her]
    rw [hr]
    rw [← her] at hC h0
    have q0 : (er != 0) = true := by simpa using h0
    clear hr h0 her
    go_enter Try.func57, Try.ntmps57
    go_wp2_with fail
    refine (hC.out _).mono ?_
    rintro e w1 ⟨rfl, hb1⟩
    have hb2 := hide ((((by repeat (first | with_reducible exact Below.refl _ _ | with_reducible assumption | with_reducible refine up_drewN ?_ | with_reducible refine up_drew ?_ | (with_reducible refine up_alloc ?_ ?_; rotate_left; (first | omega | (simp <;> omega) | simp)) | (with_reducible refine up_set ?_ ?_; rotate_left; (first | omega | (simp <;> omega) | simp)) | (with_reducible refine Below.trans ?_ (Below.mono (by with_reducible assumption) ?_); rotate_left; (first | omega | (simp <;> omega) | simp)))) : Below w.heap.size w _)).trans (hb1.mono (by simp)))
    clear hb1
    go_wp2
    go_ret
    exact ⟨rfl, hb2.out⟩
end Go.Proofs.Ytcehdpeeaogpiaa

/-! What focal.Run answers to what it refuses. Conditions: the slices read. -/
namespace Go.Proofs.Ytcehdpeeaogpiaa
open Go.RowKit
set_option linter.unusedSimpArgs false
set_option linter.unusedVariables false
def fcErr0 (N : Int) (es : List Ed) (x1 x2 : Int) (h : List Int) (r : P2) : Int := if slookErr N es x1 x2 h ≠ 0 then slookErr N es x1 x2 h else weighErr r

set_option maxRecDepth 100000 in
set_option maxHeartbeats 2000000 in
theorem frun_bad1 (N : Int) (a : Option Addr) (cap : Nat) (es : List Ed) (x1 x2 : Int) (ah : Option Addr) (ch : Nat) (h : List Int) (r : P2) (w : World) (B : Nat) (hB : B ≤ w.heap.size) (hE : Row encE 3 w B a es) (hH : Row encI 1 w B ah h) (hl : es.length ≤ 9223372036854775807) (hl2 : h.length ≤ 9223372036854775807) (aT : Option Addr) (cT mT : Nat) (k : Int) (h0 : fcErr0 N es x1 x2 h r ≠ 0) :
    Calls Try.prog 60 #[.agg #[.int .i64 N, .slice a es.length cap], .int .i64 x1, .int .i64 x2, .slice ah h.length ch, .agg #[.int .i64 r.a, .int .i64 r.b], .slice aT mT cT, .int .i64 k] w fun e w' => e = .returned (.tuple #[FoundNone, .int .i64 (fcErr0 N es x1 x2 h r)]) ∧ Below w.heap.size w w' := by
  have hC := hide (fun (w' : World) (hb : Below w.heap.size w w') => slook_any N a cap es x1 x2 ah ch h w' B (Nat.le_trans hB hb.size) (hE.below hb hB) (hH.below hb hB) hl hl2)
  have hW := hide (fun (w' : World) => weight_any r w')
  obtain ⟨ra, rb⟩ := r
  simp only at hW ⊢
  by_cases hs : slookErr N es x1 x2 h = 0
  · have hr : fcErr0 N es x1 x2 h ⟨ra, rb⟩ = weighErr ⟨ra, rb⟩ := by unfold fcErr0; rw [if_neg (by simpa using hs)]
    rw [hr] at h0 ⊢
    rw [hs] at hC
    obtain ⟨er, her⟩ : ∃ er, er = weighErr ⟨ra, rb⟩ := ⟨_, rfl⟩
    rw [← her] at h0 hW ⊢
    have q0 : (er != 0) = true := by simpa using h0
    replace her := hide her
    clear hE hH h0 hr hs
    go_enter Try.func60, Try.ntmps60
    go_wp2_with fail
    refine (hC.out _ (by exact (by repeat (first | with_reducible exact Below.refl _ _ | with_reducible assumption | with_reducible refine up_drewN ?_ | with_reducible refine up_drew ?_ | (with_reducible refine up_alloc ?_ ?_; rotate_left; (first | omega | (simp <;> omega) | simp)) | (with_reducible refine up_set ?_ ?_; rotate_left; (first | omega | (simp <;> omega) | simp)) | (with_reducible refine Below.trans ?_ (Below.mono (by with_reducible assumption) ?_); rotate_left; (first | omega | (simp <;> omega) | simp)))))).mono ?_
    rintro e w1 ⟨rfl, hb1⟩
    have r0 := cu_below hb1 (p := ⟨w.heap.size + 1, 0, none⟩) (v := .int .i64 ra) (by simp [go_sem]) (by first | omega | (simp; done) | (simp; omega))
    have r1 := cu_below hb1 (p := ⟨w.heap.size + 1, 1, none⟩) (v := .int .i64 rb) (by simp [go_sem]) (by first | omega | (simp; done) | (simp; omega))
    have k0 := cu_below hb1 (p := ⟨w.heap.size + 1 + 1, 0, none⟩) (v := .slice none 0 0) (by simp [go_sem]) (by first | omega | (simp; done) | (simp; omega))
    have k1 := cu_below hb1 (p := ⟨w.heap.size + 1 + 1, 1, none⟩) (v := .int .i64 0) (by simp [go_sem]) (by first | omega | (simp; done) | (simp; omega))
    have k2 := cu_below hb1 (p := ⟨w.heap.size + 1 + 1, 2, none⟩) (v := .slice none 0 0) (by simp [go_sem]) (by first | omega | (simp; done) | (simp; omega))
    have f0 := fu_below hb1 (p := ⟨w.heap.size + 1 + 1, 0, none⟩) (by simp [go_sem]) (by first | omega | (simp; done) | (simp; omega))
    have f1 := fu_below hb1 (p := ⟨w.heap.size + 1 + 1, 1, none⟩) (by simp [go_sem]) (by first | omega | (simp; done) | (simp; omega))
    have f2 := fu_below hb1 (p := ⟨w.heap.size + 1 + 1, 2, none⟩) (by simp [go_sem]) (by first | omega | (simp; done) | (simp; omega))
    have hb2 := hide ((((by repeat (first | with_reducible exact Below.refl _ _ | with_reducible assumption | with_reducible refine up_drewN ?_ | with_reducible refine up_drew ?_ | (with_reducible refine up_alloc ?_ ?_; rotate_left; (first | omega | (simp <;> omega) | simp)) | (with_reducible refine up_set ?_ ?_; rotate_left; (first | omega | (simp <;> omega) | simp)) | (with_reducible refine Below.trans ?_ (Below.mono (by with_reducible assumption) ?_); rotate_left; (first | omega | (simp <;> omega) | simp)))) : Below w.heap.size w _)).trans (hb1.mono (by first | omega | (simp; done) | (simp; omega))))
    have hzw : w.heap.size + 1 + 1 < w1.heap.size := cell_lt k0
    clear hb1
    go_wp2_with fail
    refine (hW.out _).mono ?_
    rintro e w2 ⟨rfl, hb3⟩
    have k0 := cu_below hb3 k0 (by first | omega | (simp; done) | (simp; omega))
    have k1 := cu_below hb3 k1 (by first | omega | (simp; done) | (simp; omega))
    have k2 := cu_below hb3 k2 (by first | omega | (simp; done) | (simp; omega))
    have f0 := fu_below hb3 f0 (by first | omega | (simp; done) | (simp; omega))
    have f1 := fu_below hb3 f1 (by first | omega | (simp; done) | (simp; omega))
    have f2 := fu_below hb3 f2 (by first | omega | (simp; done) | (simp; omega))
    have hb4 := hide (hb2.out.trans (hb3.mono (by omega)))
    clear hb3
    go_wp2
    refine bodyPost_ret (v := .tuple #[FoundNone, .int .i64 er]) (by simp [results, Try.results60, go_sem, FoundNone, k0, k1, k2, f0, f1, f2]) rfl ?_
    exact ⟨rfl, ((hb4.out.setCell (by first | omega | (simp; done) | (simp; omega)) _).setCell (by first | omega | (simp; done) | (simp; omega)) _).setCell (by first | omega | (simp; done) | (simp; omega)) _⟩
  · have hr : fcErr0 N es x1 x2 h ⟨ra, rb⟩ = slookErr N es x1 x2 h := by unfold fcErr0; rw [if_pos hs]
    rw [hr]
    obtain ⟨er, her⟩ : ∃ er, er = slookErr N es x1 x2 h := ⟨_, rfl⟩
    rw [← her] at hs hC ⊢
    have q0 : (er != 0) = true := by simpa using hs
    replace her := hide her
    clear hE hH h0 hr hs
    go_enter Try.func60, Try.ntmps60
    go_wp2_with fail
    refine (hC.out _ (by exact (by repeat (first | with_reducible exact Below.refl _ _ | with_reducible assumption | with_reducible refine up_drewN ?_ | with_reducible refine up_drew ?_ | (with_reducible refine up_alloc ?_ ?_; rotate_left; (first | omega | (simp <;> omega) | simp)) | (with_reducible refine up_set ?_ ?_; rotate_left; (first | omega | (simp <;> omega) | simp)) | (with_reducible refine Below.trans ?_ (Below.mono (by with_reducible assumption) ?_); rotate_left; (first | omega | (simp <;> omega) | simp)))))).mono ?_
    rintro e w1 ⟨rfl, hb1⟩
    have k0 := cu_below hb1 (p := ⟨w.heap.size + 1 + 1, 0, none⟩) (v := .slice none 0 0) (by simp [go_sem]) (by first | omega | (simp; done) | (simp; omega))
    have k1 := cu_below hb1 (p := ⟨w.heap.size + 1 + 1, 1, none⟩) (v := .int .i64 0) (by simp [go_sem]) (by first | omega | (simp; done) | (simp; omega))
    have k2 := cu_below hb1 (p := ⟨w.heap.size + 1 + 1, 2, none⟩) (v := .slice none 0 0) (by simp [go_sem]) (by first | omega | (simp; done) | (simp; omega))
    have f0 := fu_below hb1 (p := ⟨w.heap.size + 1 + 1, 0, none⟩) (by simp [go_sem]) (by first | omega | (simp; done) | (simp; omega))
    have f1 := fu_below hb1 (p := ⟨w.heap.size + 1 + 1, 1, none⟩) (by simp [go_sem]) (by first | omega | (simp; done) | (simp; omega))
    have f2 := fu_below hb1 (p := ⟨w.heap.size + 1 + 1, 2, none⟩) (by simp [go_sem]) (by first | omega | (simp; done) | (simp; omega))
    have hb2 := hide ((((by repeat (first | with_reducible exact Below.refl _ _ | with_reducible assumption | with_reducible refine up_drewN ?_ | with_reducible refine up_drew ?_ | (with_reducible refine up_alloc ?_ ?_; rotate_left; (first | omega | (simp <;> omega) | simp)) | (with_reducible refine up_set ?_ ?_; rotate_left; (first | omega | (simp <;> omega) | simp)) | (with_reducible refine Below.trans ?_ (Below.mono (by with_reducible assumption) ?_); rotate_left; (first | omega | (simp <;> omega) | simp)))) : Below w.heap.size w _)).trans (hb1.mono (by first | omega | (simp; done) | (simp; omega))))
    clear hb1
    go_wp2
    refine bodyPost_ret (v := .tuple #[FoundNone, .int .i64 er]) (by simp [results, Try.results60, go_sem, FoundNone, k0, k1, k2, f0, f1, f2]) rfl ?_
    exact ⟨rfl, ((hb2.out.setCell (by first | omega | (simp; done) | (simp; omega)) _).setCell (by first | omega | (simp; done) | (simp; omega)) _).setCell (by first | omega | (simp; done) | (simp; omega)) _⟩
def focErr (N : Int) (es : List Ed) (x1 x2 : Int) (h : List Int) (r : P2) (mT : Nat) (k : Int) : Int := if fcErr0 N es x1 x2 h r ≠ 0 then fcErr0 N es x1 x2 h r else if (mT : Int) ≠ N ∨ k < 0 ∨ 100000 < k then 1 else 0
theorem fcErr0_zero {N : Int} {es : List Ed} {x1 x2 : Int} {h : List Int} {r : P2} (h0 : fcErr0 N es x1 x2 h r = 0) : slookErr N es x1 x2 h = 0 ∧ weighErr r = 0 := by
  unfold fcErr0 at h0
  by_cases hs : slookErr N es x1 x2 h = 0
  · rw [if_neg (by simpa using hs)] at h0
    exact ⟨hs, h0⟩
  · rw [if_pos hs] at h0
    exact absurd h0 hs
set_option maxRecDepth 100000 in
set_option maxHeartbeats 2000000 in
theorem frun_bad2 (N : Int) (a : Option Addr) (cap : Nat) (es : List Ed) (x1 x2 : Int) (ah : Option Addr) (ch : Nat) (h : List Int) (r : P2) (w : World) (B : Nat) (hB : B ≤ w.heap.size) (hE : Row encE 3 w B a es) (hH : Row encI 1 w B ah h) (hl : es.length ≤ 9223372036854775807) (hl2 : h.length ≤ 9223372036854775807) (aT : Option Addr) (cT mT : Nat) (k : Int) (hmT : mT ≤ 9223372036854775807) (h0 : fcErr0 N es x1 x2 h r = 0) (hbad : (mT : Int) ≠ N ∨ k < 0 ∨ 100000 < k) :
    Calls Try.prog 60 #[.agg #[.int .i64 N, .slice a es.length cap], .int .i64 x1, .int .i64 x2, .slice ah h.length ch, .agg #[.int .i64 r.a, .int .i64 r.b], .slice aT mT cT, .int .i64 k] w fun e w' => e = .returned (.tuple #[FoundNone, .int .i64 1]) ∧ Below w.heap.size w w' := by
  obtain ⟨hs, hw⟩ := fcErr0_zero h0
  have hC := fun (w' : World) (hb : Below w.heap.size w w') => slook_any N a cap es x1 x2 ah ch h w' B (Nat.le_trans hB hb.size) (hE.below hb hB) (hH.below hb hB) hl hl2
  have hW := fun (w' : World) => weight_any r w'
  rw [hs] at hC
  rw [hw] at hW
  replace hC := hide hC
  replace hW := hide hW
  obtain ⟨ra, rb⟩ := r
  simp only at hW ⊢
  have hq : (((mT : Int) != N) = true) ∨ (((mT : Int) != N) = false ∧ k < 0) ∨ (((mT : Int) != N) = false ∧ ¬ k < 0 ∧ 100000 < k) := by
    by_cases h1 : (mT : Int) = N
    · by_cases h2 : k < 0
      · exact .inr (.inl ⟨by simp [h1], h2⟩)
      · exact .inr (.inr ⟨by simp [h1], h2, by omega⟩)
    · exact .inl (by simp [h1])
  clear hE hH h0 hs hw hbad
  rcases hq with q1 | ⟨q1, q2⟩ | ⟨q1, q2, q3⟩
  all_goals
    go_enter Try.func60, Try.ntmps60
    go_wp2_with fail
    refine (hC.out _ (by exact (by repeat (first | with_reducible exact Below.refl _ _ | with_reducible assumption | with_reducible refine up_drewN ?_ | with_reducible refine up_drew ?_ | (with_reducible refine up_alloc ?_ ?_; rotate_left; (first | omega | (simp <;> omega) | simp)) | (with_reducible refine up_set ?_ ?_; rotate_left; (first | omega | (simp <;> omega) | simp)) | (with_reducible refine Below.trans ?_ (Below.mono (by with_reducible assumption) ?_); rotate_left; (first | omega | (simp <;> omega) | simp)))))).mono ?_
    rintro e w1 ⟨rfl, hb1⟩
    have n0 := cu_below hb1 (p := ⟨w.heap.size, 0, none⟩) (v := .int .i64 N) (by simp [go_sem]) (by first | omega | (simp; done) | (simp; omega))
    have r0 := cu_below hb1 (p := ⟨w.heap.size + 1, 0, none⟩) (v := .int .i64 ra) (by simp [go_sem]) (by first | omega | (simp; done) | (simp; omega))
    have r1 := cu_below hb1 (p := ⟨w.heap.size + 1, 1, none⟩) (v := .int .i64 rb) (by simp [go_sem]) (by first | omega | (simp; done) | (simp; omega))
    have k0 := cu_below hb1 (p := ⟨w.heap.size + 1 + 1, 0, none⟩) (v := .slice none 0 0) (by simp [go_sem]) (by first | omega | (simp; done) | (simp; omega))
    have k1 := cu_below hb1 (p := ⟨w.heap.size + 1 + 1, 1, none⟩) (v := .int .i64 0) (by simp [go_sem]) (by first | omega | (simp; done) | (simp; omega))
    have k2 := cu_below hb1 (p := ⟨w.heap.size + 1 + 1, 2, none⟩) (v := .slice none 0 0) (by simp [go_sem]) (by first | omega | (simp; done) | (simp; omega))
    have f0 := fu_below hb1 (p := ⟨w.heap.size + 1 + 1, 0, none⟩) (by simp [go_sem]) (by first | omega | (simp; done) | (simp; omega))
    have f1 := fu_below hb1 (p := ⟨w.heap.size + 1 + 1, 1, none⟩) (by simp [go_sem]) (by first | omega | (simp; done) | (simp; omega))
    have f2 := fu_below hb1 (p := ⟨w.heap.size + 1 + 1, 2, none⟩) (by simp [go_sem]) (by first | omega | (simp; done) | (simp; omega))
    have hb2 := hide ((((by repeat (first | with_reducible exact Below.refl _ _ | with_reducible assumption | with_reducible refine up_drewN ?_ | with_reducible refine up_drew ?_ | (with_reducible refine up_alloc ?_ ?_; rotate_left; (first | omega | (simp <;> omega) | simp)) | (with_reducible refine up_set ?_ ?_; rotate_left; (first | omega | (simp <;> omega) | simp)) | (with_reducible refine Below.trans ?_ (Below.mono (by with_reducible assumption) ?_); rotate_left; (first | omega | (simp <;> omega) | simp)))) : Below w.heap.size w _)).trans (hb1.mono (by first | omega | (simp; done) | (simp; omega))))
    have hzw : w.heap.size + 1 + 1 < w1.heap.size := cell_lt k0
    clear hb1
    go_wp2_with fail
    refine (hW.out _).mono ?_
    rintro e w2 ⟨rfl, hb3⟩
    have n0 := cu_below hb3 n0 (by first | omega | (simp; done) | (simp; omega))
    have k0 := cu_below hb3 k0 (by first | omega | (simp; done) | (simp; omega))
    have k1 := cu_below hb3 k1 (by first | omega | (simp; done) | (simp; omega))
    have k2 := cu_below hb3 k2 (by first | omega | (simp; done) | (simp; omega))
    have f0 := fu_below hb3 f0 (by first | omega | (simp; done) | (simp; omega))
    have f1 := fu_below hb3 f1 (by first | omega | (simp; done) | (simp; omega))
    have f2 := fu_below hb3 f2 (by first | omega | (simp; done) | (simp; omega))
    have hb4 := hide (hb2.out.trans (hb3.mono (by omega)))
    clear hb3
    go_wp2
    refine bodyPost_ret (v := .tuple #[FoundNone, .int .i64 1]) (by simp [results, Try.results60, go_sem, FoundNone, k0, k1, k2, f0, f1, f2]) rfl ?_
    exact ⟨rfl, ((hb4.out.setCell (by first | omega | (simp; done) | (simp; omega)) _).setCell (by first | omega | (simp; done) | (simp; omega)) _).setCell (by first | omega | (simp; done) | (simp; omega)) _⟩
end Go.Proofs.Ytcehdpeeaogpiaa

/-! Several texts in one: -/
/-! The reference's SameWay and SameFound over two that hold the same: true. Conditions: the lists read. -/
namespace Go.Proofs.Ytcehdpeeaogpiaa
open Go.RowKit
set_option linter.unusedSimpArgs false
set_option linter.unusedVariables false
set_option maxHeartbeats 1000000 in
theorem sw_any (a b : Option Addr) (c1 c2 m : Nat) (xs : List Int) (cost : Int) (w : World) (h1 : xs.length = m) (hx : Row encI 1 w w.heap.size a xs) (hy : Row encI 1 w w.heap.size b xs) (hl : m ≤ 9223372036854775807) :
    Calls Try.prog 53 #[.agg #[.slice a m c1, .int .i64 cost], .agg #[.slice b m c2, .int .i64 cost]] w fun e w' => e = .returned (.bool true) ∧ Below w.heap.size w w' := by
  have hE := hide (fun (w' : World) (hb : Below w.heap.size w w') => eqI a b c1 c2 m m xs xs w' w.heap.size w.heap.size h1 h1 (hx.below hb (Nat.le_refl _)) (hy.below hb (Nat.le_refl _)) hl hl true (by simp))
  clear hx hy
  replace h1 := hide h1
  go_enter Try.func53, Try.ntmps53
  go_wp2_with fail
  refine (hE.out _ (by exact (by repeat (first | with_reducible exact Below.refl _ _ | with_reducible assumption | with_reducible refine up_drewN ?_ | with_reducible refine up_drew ?_ | (with_reducible refine up_alloc ?_ ?_; rotate_left; (first | omega | (simp <;> omega) | simp)) | (with_reducible refine up_set ?_ ?_; rotate_left; (first | omega | (simp <;> omega) | simp)) | (with_reducible refine Below.trans ?_ (Below.mono (by with_reducible assumption) ?_); rotate_left; (first | omega | (simp <;> omega) | simp)))))).mono ?_
  rintro e w1 ⟨rfl, m2, rfl⟩
  go_wp2
  go_ret
  exact ⟨rfl, (by repeat (first | with_reducible exact Below.refl _ _ | with_reducible assumption | with_reducible refine up_drewN ?_ | with_reducible refine up_drew ?_ | (with_reducible refine up_alloc ?_ ?_; rotate_left; (first | omega | (simp <;> omega) | simp)) | (with_reducible refine up_set ?_ ?_; rotate_left; (first | omega | (simp <;> omega) | simp)) | (with_reducible refine Below.trans ?_ (Below.mono (by with_reducible assumption) ?_); rotate_left; (first | omega | (simp <;> omega) | simp))))⟩
set_option maxHeartbeats 1000000 in
theorem sf_any (a b a2 b2 : Option Addr) (c1 c2 d1 d2 m k : Nat) (xs ys : List Int) (cost : Int) (w : World) (h1 : xs.length = m) (hx : Row encI 1 w w.heap.size a xs) (hy : Row encI 1 w w.heap.size b xs) (hl : m ≤ 9223372036854775807) (h2 : ys.length = k) (hx2 : Row encI 1 w w.heap.size a2 ys) (hy2 : Row encI 1 w w.heap.size b2 ys) (hl2 : k ≤ 9223372036854775807) :
    Calls Try.prog 41 #[.agg #[.slice a m c1, .int .i64 cost, .slice a2 k d1], .agg #[.slice b m c2, .int .i64 cost, .slice b2 k d2]] w fun e w' => e = .returned (.bool true) ∧ Below w.heap.size w w' := by
  have hE := hide (fun (w' : World) (hb : Below w.heap.size w w') => eqI a2 b2 d1 d2 k k ys ys w' w.heap.size w.heap.size h2 h2 (hx2.below hb (Nat.le_refl _)) (hy2.below hb (Nat.le_refl _)) hl2 hl2 true (by simp))
  have hW := hide (fun (w' : World) (hb : Below w.heap.size w w') => sw_any a b c1 c2 m xs cost w' h1 ((hx.below hb (Nat.le_refl _)).mono hb.size) ((hy.below hb (Nat.le_refl _)).mono hb.size) hl)
  clear hx hy hx2 hy2
  replace h1 := hide h1
  replace h2 := hide h2
  go_enter Try.func41, Try.ntmps41
  go_wp2_with fail
  refine (hW.out _ (by exact (by repeat (first | with_reducible exact Below.refl _ _ | with_reducible assumption | with_reducible refine up_drewN ?_ | with_reducible refine up_drew ?_ | (with_reducible refine up_alloc ?_ ?_; rotate_left; (first | omega | (simp <;> omega) | simp)) | (with_reducible refine up_set ?_ ?_; rotate_left; (first | omega | (simp <;> omega) | simp)) | (with_reducible refine Below.trans ?_ (Below.mono (by with_reducible assumption) ?_); rotate_left; (first | omega | (simp <;> omega) | simp)))))).mono ?_
  rintro e w1 ⟨rfl, hb1⟩
  have k1 := cu_below hb1 (p := ⟨w.heap.size, 2, none⟩) (v := .slice a2 k d1) (by simp [go_sem]) (by simp; omega)
  have k2 := cu_below hb1 (p := ⟨w.heap.size + 1, 2, none⟩) (v := .slice b2 k d2) (by simp [go_sem]) (by simp)
  have hb2 := hide ((((by repeat (first | with_reducible exact Below.refl _ _ | with_reducible assumption | with_reducible refine up_drewN ?_ | with_reducible refine up_drew ?_ | (with_reducible refine up_alloc ?_ ?_; rotate_left; (first | omega | (simp <;> omega) | simp)) | (with_reducible refine up_set ?_ ?_; rotate_left; (first | omega | (simp <;> omega) | simp)) | (with_reducible refine Below.trans ?_ (Below.mono (by with_reducible assumption) ?_); rotate_left; (first | omega | (simp <;> omega) | simp)))) : Below w.heap.size w _)).trans (hb1.mono (by simp; omega)))
  clear hb1
  go_wp2_with fail
  refine (hE.out _ hb2.out).mono ?_
  rintro e w2 ⟨rfl, m2, rfl⟩
  go_wp2
  go_ret
  exact ⟨rfl, up_drewN hb2.out⟩
end Go.Proofs.Ytcehdpeeaogpiaa

/-! What a search answers, as plain data. Conditions: none. -/
namespace Go.Proofs.Ytcehdpeeaogpiaa
open Go.RowKit
set_option linter.unusedSimpArgs false
set_option linter.unusedVariables false
def FoundIs (cost : Int) (xs ys : List Int) (er : Int) (w : World) (e : Ending) (w' : World) : Prop :=
  ∃ a m c b k d, m = xs.length ∧ k = ys.length ∧ e = .returned (.tuple #[.agg #[.slice a m c, .int .i64 cost, .slice b k d], .int .i64 er]) ∧ Own encI 1 3 w' w.heap.size (.slice a m c) xs ∧ Own encI 1 3 w' w.heap.size (.slice b k d) ys ∧ Below w.heap.size w w'
theorem found_is {key : Int → Int → Int} {E : List NE} {h : Nat → Int} {n tg : Nat} {s0 : SR} {o : Option SR} (ho : SRun key E h n tg s0 o) : ∃ cost xs ys er, ∀ w e w', FoundAns key E h n tg s0 w e w' → FoundIs cost xs ys er w e w' := by
  cases o with
  | none =>
    refine ⟨0, [], [], 5, fun w e w' hA => ?_⟩
    obtain ⟨o2, h1, h2, h3⟩ := hA
    obtain rfl := srun_one ho h1
    dsimp only at h3
    subst h3
    exact ⟨none, 0, 0, none, 0, 0, rfl, rfl, rfl, Own.nil _ _, Own.nil _ _, h2⟩
  | some s =>
    by_cases hex : ∃ l, Chain s.pred tg l
    · obtain ⟨l, hl⟩ := hex
      refine ⟨s.cost tg, LP l.reverse, LP s.ord, 0, fun w e w' hA => ?_⟩
      obtain ⟨o2, h1, h2, h3⟩ := hA
      obtain rfl := srun_one ho h1
      obtain ⟨l2, a, k, b, c, g1, rfl, g3, g4⟩ := h3
      obtain rfl := chain_one hl g1
      exact ⟨a, _, k, b, _, c, by simp [LP], by simp [LP], rfl, g3, g4, h2⟩
    · refine ⟨0, [], [], 0, fun w e w' hA => ?_⟩
      obtain ⟨o2, h1, h2, h3⟩ := hA
      obtain rfl := srun_one ho h1
      obtain ⟨l2, a, k, b, c, g1, _⟩ := h3
      exact absurd ⟨l2, g1⟩ hex
end Go.Proofs.Ytcehdpeeaogpiaa

/-! The walk of felllaw.FocalRuns: it returns true. Conditions: the arguments read as data. -/
namespace Go.Proofs.Ytcehdpeeaogpiaa
open Go.RowKit
set_option linter.unusedSimpArgs false
set_option linter.unusedVariables false
/-- what both answer, as plain data -/
theorem foc_is (es : List Ed) (h taste : Nat → Int) (r : P2) (n tg st : Nat) (s0 : FR) : ∃ cost xs ys er, ∀ w e w', FocAns es h taste r n tg st s0 w e w' → FoundIs cost xs ys er w e w' := by
  by_cases hex : ∃ o, FRun (nes es) h taste r n tg st s0 o
  · obtain ⟨o, ho⟩ := hex
    cases o with
    | none =>
      refine ⟨0, [], [], 5, fun w e w' hA => ?_⟩
      obtain ⟨o2, h1, h2, h3⟩ := hA
      obtain rfl := frun_one ho h1
      dsimp only at h3
      subst h3
      exact ⟨none, 0, 0, none, 0, 0, rfl, rfl, rfl, Own.nil _ _, Own.nil _ _, h2⟩
    | steps =>
      refine ⟨0, [], [], 8, fun w e w' hA => ?_⟩
      obtain ⟨o2, h1, h2, h3⟩ := hA
      obtain rfl := frun_one ho h1
      dsimp only at h3
      subst h3
      exact ⟨none, 0, 0, none, 0, 0, rfl, rfl, rfl, Own.nil _ _, Own.nil _ _, h2⟩
    | found s =>
      by_cases hex : ∃ l, Chain s.pred tg l
      · obtain ⟨l, hl⟩ := hex
        refine ⟨(wcost (n : Int) es (LP l.reverse)).1, LP l.reverse, LP s.ord, 0, fun w e w' hA => ?_⟩
        obtain ⟨o2, h1, h2, h3⟩ := hA
        obtain rfl := frun_one ho h1
        obtain ⟨l2, a, k, b, c, g1, rfl, g3, g4⟩ := h3
        obtain rfl := chain_one hl g1
        exact ⟨a, _, k, b, _, c, by simp [LP], by simp [LP], rfl, g3, g4, h2⟩
      · refine ⟨0, [], [], 0, fun w e w' hA => ?_⟩
        obtain ⟨o2, h1, h2, h3⟩ := hA
        obtain rfl := frun_one ho h1
        obtain ⟨l2, a, k, b, c, g1, _⟩ := h3
        exact absurd ⟨l2, g1⟩ hex
  · refine ⟨0, [], [], 0, fun w e w' hA => ?_⟩
    obtain ⟨o2, h1, h2, h3⟩ := hA
    exact absurd ⟨o2, h1⟩ hex
set_option maxRecDepth 100000 in
set_option maxHeartbeats 8000000 in
theorem walk_FocalRuns (x0 : Int) (a0 : Option Addr) (cap0 : Nat) (es0 : List Ed) (x1 : Int) (x2 : Int) (a3 : Option Addr) (cap3 : Nat) (x3 : List Int) (x4 : P2) (a5 : Option Addr) (cap5 : Nat) (x5 : List Int) (x6 : Int) (w : World) (b0 : Bd x0) (l0 : es0.length ≤ cap0) (m0 : cap0 ≤ maxLen) (r0 : Row encE 3 w w.heap.size a0 es0) (be0 : ∀ x ∈ es0, BdE x) (b1 : Bd x1) (b2 : Bd x2) (l3 : x3.length ≤ cap3) (m3 : cap3 ≤ maxLen) (r3 : Row encI 1 w w.heap.size a3 x3) (b3 : ∀ x ∈ x3, Bd x) (b4 : Bd x4.a) (c4 : Bd x4.b) (l5 : x5.length ≤ cap5) (m5 : cap5 ≤ maxLen) (r5 : Row encI 1 w w.heap.size a5 x5) (b5 : ∀ x ∈ x5, Bd x) (b6 : Bd x6) :
    Calls Try.prog 10 #[.agg #[.int .i64 x0, .slice a0 es0.length cap0], .int .i64 x1, .int .i64 x2, .slice a3 x3.length cap3, .agg #[.int .i64 x4.a, .int .i64 x4.b], .slice a5 x5.length cap5, .int .i64 x6] w fun e w' => e = .returned (.bool true) ∧ Below w.heap.size w w' := by
  have hl : es0.length ≤ 9223372036854775807 := by unfold maxLen at m0; omega
  have hl3 : x3.length ≤ 9223372036854775807 := by unfold maxLen at m3; omega
  have hl5 : x5.length ≤ 9223372036854775807 := by unfold maxLen at m5; omega
  have hRL := hide (fun (w' : World) (hb : Below w.heap.size w w') => rslook_any x0 a0 cap0 es0 x1 x2 a3 cap3 x3 w' w.heap.size hb.size (r0.below hb (Nat.le_refl _)) (r3.below hb (Nat.le_refl _)) hl hl3)
  have hRW := hide (fun (w' : World) => rweight_any x4 w')
  have hSr := hide (fun (hs : slookErr x0 es0 x1 x2 x3 = 0) (hw : weighErr x4 = 0) (hm : (x5.length : Int) = x0) (hk0 : 0 ≤ x6) (hk1 : x6 ≤ 100000) => (show ∃ cost er xs ys, (∀ w', Below w.heap.size w w' → Calls Try.prog 60 #[.agg #[.int .i64 x0, .slice a0 es0.length cap0], .int .i64 x1, .int .i64 x2, .slice a3 x3.length cap3, .agg #[.int .i64 x4.a, .int .i64 x4.b], .slice a5 x5.length cap5, .int .i64 x6] w' (FoundIs cost xs ys er w')) ∧
      ∀ w', Below w.heap.size w w' → Calls Try.prog 61 #[.agg #[.int .i64 x0, .slice a0 es0.length cap0], .int .i64 x1, .int .i64 x2, .slice a3 x3.length cap3, .agg #[.int .i64 x4.a, .int .i64 x4.b], .slice a5 x5.length cap5, .int .i64 x6] w' (FoundIs cost xs ys er w') by
    obtain ⟨n, v, t, rfl, rfl, rfl, a1, a2, a4, a5', a6, a7, a8, a9, a10, a11, a12⟩ := slook_all hs
    obtain ⟨st, rfl⟩ := Int.eq_ofNat_of_zero_le hk0
    have hst : st ≤ 100000 := by omega
    have hwo := weighErr_ok hw
    have e3 : LI n (hAt x3) = x3 := by have := li_hAt x3; rwa [a9] at this
    have hm' : x5.length = n := by omega
    have e5 : LI n (hAt x5) = x5 := by have := li_hAt x5; rwa [hm'] at this
    obtain ⟨cost, xs, ys, er, hI⟩ := foc_is es0 (hAt x3) (hAt x5) ⟨x4.a, x4.b⟩ n t st (fStart (hAt x3) v)
    refine ⟨cost, er, xs, ys, fun w' hb => ?_, fun w' hb => ?_⟩
    · rw [a9, hm']
      exact (frun_ok n v t st a0 a3 a5 cap0 cap3 cap5 es0 (hAt x3) (hAt x5) x4.a x4.b w' w.heap.size hb.size (r0.below hb (Nat.le_refl _)) (by rw [e3]; exact r3.below hb (Nat.le_refl _)) (by rw [e5]; exact r5.below hb (Nat.le_refl _)) a1 a2 a4 a5' a6 a7 a8 (fun u _ => a10 u) hwo hst
        (fun w'' hb2 => by
          have := slook_any (n : Int) a0 cap0 es0 (v : Int) (t : Int) a3 cap3 x3 w'' w.heap.size (by have := hb.size; have := hb2.size; omega) (r0.below (hb.trans (hb2.mono hb.size)) (Nat.le_refl _)) (r3.below (hb.trans (hb2.mono hb.size)) (Nat.le_refl _)) hl hl3
          rw [hs, a9] at this
          exact this)
        (fun w'' => by
          have := weight_any x4 w''
          rw [hw] at this
          exact this)).mono (fun e w'' hA => hI _ _ _ hA)
    · rw [a9, hm']
      exact (rfocal_any n v t st a0 a3 a5 cap0 cap3 cap5 es0 (hAt x3) (hAt x5) x4.a x4.b w' w.heap.size hb.size (r0.below hb (Nat.le_refl _)) (by rw [e3]; exact r3.below hb (Nat.le_refl _)) (by rw [e5]; exact r5.below hb (Nat.le_refl _)) a1 a2 a4 a5' a6 a7 a8 (fun u _ => a10 u) hwo hst).mono (fun e w'' hA => hI _ _ _ hA)))
  have hBad := hide (fun (hb0 : focErr x0 es0 x1 x2 x3 x4 x5.length x6 ≠ 0) (w' : World) (hb : Below w.heap.size w w') => (show Calls Try.prog 60 #[.agg #[.int .i64 x0, .slice a0 es0.length cap0], .int .i64 x1, .int .i64 x2, .slice a3 x3.length cap3, .agg #[.int .i64 x4.a, .int .i64 x4.b], .slice a5 x5.length cap5, .int .i64 x6] w' fun e w'' => e = .returned (.tuple #[FoundNone, .int .i64 (focErr x0 es0 x1 x2 x3 x4 x5.length x6)]) ∧ Below w'.heap.size w' w'' by
    by_cases h0 : fcErr0 x0 es0 x1 x2 x3 x4 = 0
    · by_cases hq : (x5.length : Int) ≠ x0 ∨ x6 < 0 ∨ 100000 < x6
      · have he : focErr x0 es0 x1 x2 x3 x4 x5.length x6 = 1 := by unfold focErr; rw [if_neg (by simp [h0]), if_pos hq]
        rw [he]
        exact frun_bad2 x0 a0 cap0 es0 x1 x2 a3 cap3 x3 x4 w' w.heap.size hb.size (r0.below hb (Nat.le_refl _)) (r3.below hb (Nat.le_refl _)) hl hl3 a5 cap5 x5.length x6 hl5 h0 hq
      · exfalso
        unfold focErr at hb0
        rw [if_neg (by simp [h0]), if_neg hq] at hb0
        exact hb0 rfl
    · have he : focErr x0 es0 x1 x2 x3 x4 x5.length x6 = fcErr0 x0 es0 x1 x2 x3 x4 := by unfold focErr; rw [if_pos h0]
      rw [he]
      exact frun_bad1 x0 a0 cap0 es0 x1 x2 a3 cap3 x3 x4 w' w.heap.size hb.size (r0.below hb (Nat.le_refl _)) (r3.below hb (Nat.le_refl _)) hl hl3 a5 cap5 x5.length x6 h0))
  obtain ⟨se, hse⟩ : ∃ se, se = slookErr x0 es0 x1 x2 x3 := ⟨_, rfl⟩
  obtain ⟨we, hwe⟩ : ∃ we, we = weighErr x4 := ⟨_, rfl⟩
  obtain ⟨fe, hfe⟩ : ∃ fe, fe = focErr x0 es0 x1 x2 x3 x4 x5.length x6 := ⟨_, rfl⟩
  have hfr : fe = if se ≠ 0 then se else if we ≠ 0 then we else if (x5.length : Int) ≠ x0 ∨ x6 < 0 ∨ 100000 < x6 then 1 else 0 := by
    rw [hfe, hse, hwe]
    unfold focErr fcErr0
    by_cases h1 : slookErr x0 es0 x1 x2 x3 = 0
    · by_cases h2 : weighErr x4 = 0
      · simp [h1, h2]
      · simp [h1, h2]
    · simp [h1]
  rw [← hse, ← hwe] at hSr
  rw [← hse] at hRL
  rw [← hwe] at hRW
  rw [← hfe] at hBad
  obtain ⟨ra, rb⟩ := x4
  simp only at hSr hBad hRW ⊢
  obtain ⟨m5l, hm5⟩ : ∃ m, m = x5.length := ⟨_, rfl⟩
  rw [← hm5] at hSr hBad hfr hl5 ⊢
  replace hm5 := hide hm5
  replace hse := hide hse
  replace hwe := hide hwe
  replace hfe := hide hfe
  clear r0 r3 r5 be0 b3 b5 l0 l3 l5 m0 m3 m5 hl3 b0 b1 b2 b4 c4 b6
  go_enter Try.func10, Try.ntmps10
  go_upto_region 1 with fail
  obtain ⟨w0, h0⟩ : ∃ w0, w0 = (w.alloc (.cells #[.int .i64 x0, .slice a0 es0.length cap0] 24)).alloc (.cells #[.int .i64 ra, .int .i64 rb] 90) := ⟨_, rfl⟩
  have hbw := hide (show Below w.heap.size w w0 by rw [h0]; exact (by repeat (first | with_reducible exact Below.refl _ _ | with_reducible assumption | with_reducible refine up_drewN ?_ | with_reducible refine up_drew ?_ | (with_reducible refine up_alloc ?_ ?_; rotate_left; (first | omega | (simp <;> omega) | simp)) | (with_reducible refine up_set ?_ ?_; rotate_left; (first | omega | (simp <;> omega) | simp)) | (with_reducible refine Below.trans ?_ (Below.mono (by with_reducible assumption) ?_); rotate_left; (first | omega | (simp <;> omega) | simp)))))
  have hs0 : w0.heap.size = w.heap.size + 1 + 1 := by rw [h0]; simp
  obtain ⟨kb, hkb⟩ : ∃ b, b = w.heap.size + 1 := ⟨_, rfl⟩
  have k0 : w0.cell? ⟨w.heap.size, 0, none⟩ = some (.int .i64 x0) := by rw [h0]; simp [go_sem]
  have k1 : w0.cell? ⟨w.heap.size, 1, none⟩ = some (.slice a0 es0.length cap0) := by rw [h0]; simp [go_sem]
  have q0 : w0.cell? ⟨kb, 0, none⟩ = some (.int .i64 ra) := by rw [h0, hkb]; simp [go_sem]
  have q1 : w0.cell? ⟨kb, 1, none⟩ = some (.int .i64 rb) := by rw [h0, hkb]; simp [go_sem]
  simp only [← h0]
  simp only [← hkb]
  have za : w.heap.size < w0.heap.size := by omega
  have zb : kb < w0.heap.size := by omega
  replace h0 := hide h0
  replace hs0 := hide hs0
  replace hkb := hide hkb
  by_cases hf : fe = 0
  · have hcs : se = 0 ∧ we = 0 ∧ ¬ ((m5l : Int) ≠ x0 ∨ x6 < 0 ∨ 100000 < x6) := by
      by_cases h1 : se = 0
      · by_cases h2 : we = 0
        · by_cases h3 : (m5l : Int) ≠ x0 ∨ x6 < 0 ∨ 100000 < x6
          · rw [hfr] at hf; simp [h1, h2] at hf; exfalso; omega
          · exact ⟨h1, h2, h3⟩
        · rw [hfr] at hf; simp [h1, h2] at hf
      · rw [hfr] at hf; simp [h1] at hf
    obtain ⟨hs, hw, hb3⟩ := hcs
    obtain ⟨cost, er, xs, ys, hRun, hSea⟩ := hSr.out hs hw (by omega) (by omega) (by omega)
    replace hRun := hide hRun
    replace hSea := hide hSea
    rw [hs] at hRL
    rw [hw] at hRW
    have c1 : ((m5l : Int) != x0) = false := by simp; omega
    have c2 : ¬ (x6 < 0) := by omega
    have c3 : ¬ (x6 > 100000) := by omega
    clear hSr hBad hs hw hf hfr hb3
    go_wp2_with fail
    refine (hRun.out _ hbw.out).mono ?_
    rintro e w1 ⟨fa, m, fc, fb, k, fd, hm, hk, rfl, oX, oY, hb1⟩
    have k0 := cu_below hb1 k0 za
    have k1 := cu_below hb1 k1 za
    have q0 := cu_below hb1 q0 zb
    have q1 := cu_below hb1 q1 zb
    have hza1 : w0.heap.size ≤ w1.heap.size := hb1.size
    have zw1 : w.heap.size < w1.heap.size := by omega
    have zb1 : kb < w1.heap.size := by omega
    have hb2 := hide (hbw.out.trans (hb1.mono (by omega)))
    have hX1 := hide (own_rowL oX)
    have hY1 := hide (own_rowL oY)
    have hmx : m ≤ 9223372036854775807 := by
      rcases oX.form with ⟨h1, _⟩ | ⟨g, cp, h1, _, _, h2, h3⟩
      · simp only [Value.slice.injEq] at h1; omega
      · unfold maxLen at h3; omega
    have hky : k ≤ 9223372036854775807 := by
      rcases oY.form with ⟨h1, _⟩ | ⟨g, cp, h1, _, _, h2, h3⟩
      · simp only [Value.slice.injEq] at h1; omega
      · unfold maxLen at h3; omega
    replace hm := hide hm
    replace hk := hide hk
    clear hb1 oX oY hRun hbw
    obtain ⟨w2, hw2⟩ : ∃ w2, w2 = w1.alloc (.cells #[.slice fa m fc, .int .i64 cost, .slice fb k fd] 47) := ⟨_, rfl⟩
    have hb12 : Below w1.heap.size w1 w2 := by rw [hw2]; exact (Below.refl _ _).alloc (Nat.le_refl _) _
    have p0 : w2.cell? ⟨w1.heap.size, 0, none⟩ = some (.slice fa m fc) := by rw [hw2]; simp [go_sem]
    have p1 : w2.cell? ⟨w1.heap.size, 1, none⟩ = some (.int .i64 cost) := by rw [hw2]; simp [go_sem]
    have p2 : w2.cell? ⟨w1.heap.size, 2, none⟩ = some (.slice fb k fd) := by rw [hw2]; simp [go_sem]
    have hz2 : w1.heap.size < w2.heap.size := cell_lt p0
    have k0 := cu_below hb12 k0 (by simp; omega)
    have k1 := cu_below hb12 k1 (by simp; omega)
    have q0 := cu_below hb12 q0 (by simp; omega)
    have q1 := cu_below hb12 q1 (by simp; omega)
    have hX2 := hide ((hX1.out.below hb12 (Nat.le_refl _)).mono (show w1.heap.size ≤ w2.heap.size by omega))
    have hY2 := hide ((hY1.out.below hb12 (Nat.le_refl _)).mono (show w1.heap.size ≤ w2.heap.size by omega))
    have hbw2 := hide (hb2.out.trans (hb12.mono (by omega)))
    have zw2 : w.heap.size < w2.heap.size := by omega
    have zb2 : kb < w2.heap.size := by omega
    clear hX1 hY1 hb12 hb2
    go_wp2_with fail
    simp only [← hw2]
    replace hw2 := hide hw2
    refine (hRL.out _ hbw2.out).mono ?_
    rintro e w3 ⟨rfl, hb3⟩
    have k0 := cu_below hb3 k0 (by simp; omega)
    have k1 := cu_below hb3 k1 (by simp; omega)
    have q0 := cu_below hb3 q0 (by simp; omega)
    have q1 := cu_below hb3 q1 (by simp; omega)
    have p0 := cu_below hb3 p0 hz2
    have p1 := cu_below hb3 p1 hz2
    have p2 := cu_below hb3 p2 hz2
    have hz3 : w2.heap.size ≤ w3.heap.size := hb3.size
    have hX3 := hide ((hX2.out.below hb3 (Nat.le_refl _)).mono hb3.size)
    have hY3 := hide ((hY2.out.below hb3 (Nat.le_refl _)).mono hb3.size)
    have hbw3 := hide (hbw2.out.trans (hb3.mono (by omega)))
    have zw3 : w.heap.size < w3.heap.size := by omega
    have zb3 : kb < w3.heap.size := by omega
    clear hX2 hY2 hb3 hbw2
    go_wp2_with fail
    refine (hRW.out _).mono ?_
    rintro e w4 ⟨rfl, hb4⟩
    have k0 := cu_below hb4 k0 (by simp; omega)
    have k1 := cu_below hb4 k1 (by simp; omega)
    have q0 := cu_below hb4 q0 (by simp; omega)
    have q1 := cu_below hb4 q1 (by simp; omega)
    have p0 := cu_below hb4 p0 (by simp; omega)
    have p1 := cu_below hb4 p1 (by simp; omega)
    have p2 := cu_below hb4 p2 (by simp; omega)
    have hz4 : w3.heap.size ≤ w4.heap.size := hb4.size
    have hX4 := hide ((hX3.out.below hb4 (Nat.le_refl _)).mono hb4.size)
    have hY4 := hide ((hY3.out.below hb4 (Nat.le_refl _)).mono hb4.size)
    have hbw4 := hide (hbw3.out.trans (hb4.mono (by omega)))
    have zw4 : w.heap.size < w4.heap.size := by omega
    have zb4 : kb < w4.heap.size := by omega
    clear hX3 hY3 hb4 hbw3
    have hSe4 := hide (hSea.out w4 hbw4.out)
    go_wp2_with fail
    refine (hSe4.out).mono ?_
    rintro e w5 ⟨ga, m', gc, gb, k', gd, hm', hk', rfl, oX, oY, hb5⟩
    obtain rfl : m = m' := by rw [hm', hm.out]
    obtain rfl : k = k' := by rw [hk', hk.out]
    have p0 := cu_below hb5 p0 (by simp; omega)
    have p1 := cu_below hb5 p1 (by simp; omega)
    have p2 := cu_below hb5 p2 (by simp; omega)
    have hz5 : w4.heap.size ≤ w5.heap.size := hb5.size
    have hX5 := hide ((hX4.out.below hb5 (Nat.le_refl _)).mono hb5.size)
    have hY5 := hide ((hY4.out.below hb5 (Nat.le_refl _)).mono hb5.size)
    have hX6 := hide (own_rowL oX)
    have hY6 := hide (own_rowL oY)
    have hbw5 := hide (hbw4.out.trans (hb5.mono (by omega)))
    have hzp : w1.heap.size < w5.heap.size := by omega
    clear hX4 hY4 hb5 hbw4 hm' hk' oX oY hSea hSe4
    have hF := hide (fun (w' : World) (hb : Below w5.heap.size w5 w') => sf_any fa ga fb gb fc gc fd gd m k xs ys cost w' hm.out.symm ((hX5.out.below hb (Nat.le_refl _)).mono hb.size) ((hX6.out.below hb (Nat.le_refl _)).mono hb.size) hmx hk.out.symm ((hY5.out.below hb (Nat.le_refl _)).mono hb.size) ((hY6.out.below hb (Nat.le_refl _)).mono hb.size) hky)
    clear hX5 hX6 hY5 hY6 k0 k1 q0 q1
    go_wp2_with fail
    refine (hF.out _ (by exact (by repeat (first | with_reducible exact Below.refl _ _ | with_reducible assumption | with_reducible refine up_drewN ?_ | with_reducible refine up_drew ?_ | (with_reducible refine up_alloc ?_ ?_; rotate_left; (first | omega | (simp <;> omega) | simp)) | (with_reducible refine up_set ?_ ?_; rotate_left; (first | omega | (simp <;> omega) | simp)) | (with_reducible refine Below.trans ?_ (Below.mono (by with_reducible assumption) ?_); rotate_left; (first | omega | (simp <;> omega) | simp)))))).mono ?_
    rintro e w6 ⟨rfl, hb6⟩
    have hb7 := hide (hbw5.out.trans (((((by repeat (first | with_reducible exact Below.refl _ _ | with_reducible assumption | with_reducible refine up_drewN ?_ | with_reducible refine up_drew ?_ | (with_reducible refine up_alloc ?_ ?_; rotate_left; (first | omega | (simp <;> omega) | simp)) | (with_reducible refine up_set ?_ ?_; rotate_left; (first | omega | (simp <;> omega) | simp)) | (with_reducible refine Below.trans ?_ (Below.mono (by with_reducible assumption) ?_); rotate_left; (first | omega | (simp <;> omega) | simp)))) : Below w5.heap.size w5 _)).trans (hb6.mono (by simp))).mono (show w.heap.size ≤ w5.heap.size by omega)))
    clear hb6
    go_wp2
    go_ret
    exact ⟨rfl, hb7.out⟩
  · have hB2 := hide (hBad.out hf)
    have hF := hide (fun (w' : World) => sf_any none none none none 0 0 0 0 0 0 [] [] 0 w' rfl (Row.nil _ _ _ _ _) (Row.nil _ _ _ _ _) (by omega) rfl (Row.nil _ _ _ _ _) (Row.nil _ _ _ _ _) (by omega))
    have e0 : (fe != 0) = true := by simpa using hf
    have hcs : (fe = se ∧ (se == 0) = false) ∨ (se = 0 ∧ fe = we ∧ (we == 0) = false) ∨ (se = 0 ∧ we = 0 ∧ fe = 1 ∧ ((((m5l : Int) != x0) = true) ∨ (((m5l : Int) != x0) = false ∧ x6 < 0) ∨ (((m5l : Int) != x0) = false ∧ ¬ x6 < 0 ∧ 100000 < x6))) := by
      by_cases h1 : se = 0
      · by_cases h2 : we = 0
        · by_cases h3 : (m5l : Int) ≠ x0 ∨ x6 < 0 ∨ 100000 < x6
          · refine .inr (.inr ⟨h1, h2, by rw [hfr]; simp only [h1, h2, if_pos h3]; simp, ?_⟩)
            by_cases h4 : (m5l : Int) = x0
            · by_cases h5 : x6 < 0
              · exact .inr (.inl ⟨by simp [h4], h5⟩)
              · exact .inr (.inr ⟨by simp [h4], h5, by omega⟩)
            · exact .inl (by simp [h4])
          · exfalso; rw [hfr] at hf; simp only [h1, h2, if_neg h3] at hf; simp at hf
        · refine .inr (.inl ⟨h1, by rw [hfr]; simp [h1, h2], by simpa using h2⟩)
      · refine .inl ⟨by rw [hfr]; simp [h1], by simpa using h1⟩
    clear hSr hBad hf hfr
    go_wp2_with fail
    refine (hB2.out _ hbw.out).mono ?_
    rintro e w1 ⟨rfl, hb1⟩
    unfold FoundNone
    have k0 := cu_below hb1 k0 za
    have k1 := cu_below hb1 k1 za
    have q0 := cu_below hb1 q0 zb
    have q1 := cu_below hb1 q1 zb
    have hza1 : w0.heap.size ≤ w1.heap.size := hb1.size
    have zw1 : w.heap.size < w1.heap.size := by omega
    have zb1 : kb < w1.heap.size := by omega
    have hb2 := hide (hbw.out.trans (hb1.mono (by omega)))
    clear hb1 hbw hB2
    obtain ⟨w2, hw2⟩ : ∃ w2, w2 = w1.alloc (.cells #[.slice none 0 0, .int .i64 0, .slice none 0 0] 47) := ⟨_, rfl⟩
    have hb12 : Below w1.heap.size w1 w2 := by rw [hw2]; exact (Below.refl _ _).alloc (Nat.le_refl _) _
    have p0 : w2.cell? ⟨w1.heap.size, 0, none⟩ = some (.slice none 0 0) := by rw [hw2]; simp [go_sem]
    have p1 : w2.cell? ⟨w1.heap.size, 1, none⟩ = some (.int .i64 0) := by rw [hw2]; simp [go_sem]
    have p2 : w2.cell? ⟨w1.heap.size, 2, none⟩ = some (.slice none 0 0) := by rw [hw2]; simp [go_sem]
    have hz2 : w1.heap.size < w2.heap.size := cell_lt p0
    have k0 := cu_below hb12 k0 (by simp; omega)
    have k1 := cu_below hb12 k1 (by simp; omega)
    have q0 := cu_below hb12 q0 (by simp; omega)
    have q1 := cu_below hb12 q1 (by simp; omega)
    have hbw2 := hide (hb2.out.trans (hb12.mono (by omega)))
    have zw2 : w.heap.size < w2.heap.size := by omega
    have zb2 : kb < w2.heap.size := by omega
    clear hb12 hb2
    go_wp2_with fail
    simp only [← hw2]
    replace hw2 := hide hw2
    refine (hRL.out _ hbw2.out).mono ?_
    rintro e w3 ⟨rfl, hb3⟩
    have k0 := cu_below hb3 k0 (by simp; omega)
    have q0 := cu_below hb3 q0 (by simp; omega)
    have q1 := cu_below hb3 q1 (by simp; omega)
    have p0 := cu_below hb3 p0 hz2
    have p1 := cu_below hb3 p1 hz2
    have p2 := cu_below hb3 p2 hz2
    have hz3 : w2.heap.size ≤ w3.heap.size := hb3.size
    have hbw3 := hide (hbw2.out.trans (hb3.mono (by omega)))
    have zb3 : kb < w3.heap.size := by omega
    have zw3 : w.heap.size < w3.heap.size := by omega
    have zp3 : w1.heap.size < w3.heap.size := by omega
    clear hb3 hbw2 k1
    rcases hcs with ⟨rfl, c0⟩ | ⟨rfl, rfl, c0⟩ | ⟨rfl, rfl, rfl, c1⟩
    · go_wp2_with fail
      refine (hF.out _).mono ?_
      rintro e w6 ⟨rfl, hb6⟩
      have hb7 := hide (hbw3.out.trans (hb6.mono (show w.heap.size ≤ w3.heap.size by omega)))
      clear hb6
      go_wp2
      go_ret
      exact ⟨rfl, hb7.out⟩
    · go_wp2_with fail
      refine (hRW.out _).mono ?_
      rintro e w4 ⟨rfl, hb4⟩
      have p0 := cu_below hb4 p0 (by simp; omega)
      have p1 := cu_below hb4 p1 (by simp; omega)
      have p2 := cu_below hb4 p2 (by simp; omega)
      have hz4 : w3.heap.size ≤ w4.heap.size := hb4.size
      have hbw4 := hide (hbw3.out.trans (hb4.mono (by omega)))
      have zp4 : w1.heap.size < w4.heap.size := by omega
      clear hb4 hbw3
      go_wp2_with fail
      refine (hF.out _).mono ?_
      rintro e w6 ⟨rfl, hb6⟩
      have hb7 := hide (hbw4.out.trans (hb6.mono (show w.heap.size ≤ w4.heap.size by omega)))
      clear hb6
      go_wp2
      go_ret
      exact ⟨rfl, hb7.out⟩
    · go_wp2_with fail
      refine (hRW.out _).mono ?_
      rintro e w4 ⟨rfl, hb4⟩
      have k0 := cu_below hb4 k0 (by simp; omega)
      have p0 := cu_below hb4 p0 (by simp; omega)
      have p1 := cu_below hb4 p1 (by simp; omega)
      have p2 := cu_below hb4 p2 (by simp; omega)
      have hz4 : w3.heap.size ≤ w4.heap.size := hb4.size
      have hbw4 := hide (hbw3.out.trans (hb4.mono (by omega)))
      have zp4 : w1.heap.size < w4.heap.size := by omega
      have zw4 : w.heap.size < w4.heap.size := by omega
      clear hb4 hbw3
      rcases c1 with c1 | ⟨c1, c2⟩ | ⟨c1, c2, c3⟩
      all_goals
        go_wp2_with fail
        refine (hF.out _).mono ?_
        rintro e w6 ⟨rfl, hb6⟩
        have hb7 := hide (hbw4.out.trans (hb6.mono (show w.heap.size ≤ w4.heap.size by omega)))
        clear hb6
        go_wp2
        go_ret
        exact ⟨rfl, hb7.out⟩
end Go.Proofs.Ytcehdpeeaogpiaa

/-! Proved here: felllaw.FocalRuns returns true whatever it is given. No conditions. -/
namespace Go.Proofs.Ytcehdpeeaogpiaa
open Go.ChangeShapes Go.WideShapes Go.ChangeAt Go.RowKit
set_option linter.unusedSimpArgs false
set_option linter.unusedVariables false

set_option maxRecDepth 100000 in
theorem lifted_FocalRuns (os : Os) (started : os.Started) (H : Type) (enc : TypeId × Value → H) :
    ReturnsInHanded {} Try.checked os 10 .any (Rows.focalRunsSpec.pre6 enc Try.prog Try.f10 Rows.focalRunsRow.domain false) (Rows.focalRunsSpec.post enc Try.prog Try.f10 false true false false) := by
  refine returnsInHanded_of_change (C := Try.checked) own started (by kernel_rfl) Try.func10
    (ChangeSpec.witness6 (enc := enc) (C := Try.checked) false ⟨#[], #[.agg #[.int .i64 0, .slice none 0 0], .int .i64 0, .int .i64 0, .slice none 0 0, .agg #[.int .i64 0, .int .i64 0], .slice none 0 0, .int .i64 0], []⟩ 8 (by kernel_rfl) (by kernel_rfl) (by kernel_rfl) (by kernel_rfl)) ?_
  intro W base args ds gs before hval0 hW hcnd _
  have hval : ∀ (j : Nat) t v, Try.f10.params[j]? = some t → args[j]? = some v → Value.okWide Try.prog W .any base t v := hval0
  have hW' := hW
  obtain ⟨p, q, hA0, hV, rfl, hfz, hnd⟩ := hW
  have hA : DataW.TrodAll enc Try.prog W 0 (fun _ => true) true Try.f10.params.toList args.toList ds p := hA0
  rw [Try.params10] at hA hval
  obtain ⟨v0, vs0, d0, ds0, p0, q0, hargs, rfl, rfl, h0, tr0⟩ := trodAll_cons hA
  obtain ⟨v1, vs1, d1, ds1, p1, q1, rfl, rfl, rfl, h1, tr1⟩ := trodAll_cons tr0
  obtain ⟨v2, vs2, d2, ds2, p2, q2, rfl, rfl, rfl, h2, tr2⟩ := trodAll_cons tr1
  obtain ⟨v3, vs3, d3, ds3, p3, q3, rfl, rfl, rfl, h3, tr3⟩ := trodAll_cons tr2
  obtain ⟨v4, vs4, d4, ds4, p4, q4, rfl, rfl, rfl, h4, tr4⟩ := trodAll_cons tr3
  obtain ⟨v5, vs5, d5, ds5, p5, q5, rfl, rfl, rfl, h5, tr5⟩ := trodAll_cons tr4
  obtain ⟨v6, vs6, d6, ds6, p6, q6, rfl, rfl, rfl, h6, tr6⟩ := trodAll_cons tr5
  obtain ⟨rfl, rfl, rfl⟩ := trodAll_nil tr6
  obtain rfl : args = #[v0, v1, v2, v3, v4, v5, v6] := by cases args; simp_all
  obtain ⟨rfl, rfl⟩ := trodVars_none hV
  have k0 := h0
  have lt0 : ∀ x ∈ p0, x.block < W.heap.size := by obtain ⟨m, hm⟩ := k0; exact DataW.trod_lt m _ _ _ hm
  have k1 := h1
  have lt1 : ∀ x ∈ p1, x.block < W.heap.size := by obtain ⟨m, hm⟩ := k1; exact DataW.trod_lt m _ _ _ hm
  have k2 := h2
  have lt2 : ∀ x ∈ p2, x.block < W.heap.size := by obtain ⟨m, hm⟩ := k2; exact DataW.trod_lt m _ _ _ hm
  have k3 := h3
  have lt3 : ∀ x ∈ p3, x.block < W.heap.size := by obtain ⟨m, hm⟩ := k3; exact DataW.trod_lt m _ _ _ hm
  have k4 := h4
  have lt4 : ∀ x ∈ p4, x.block < W.heap.size := by obtain ⟨m, hm⟩ := k4; exact DataW.trod_lt m _ _ _ hm
  have k5 := h5
  have lt5 : ∀ x ∈ p5, x.block < W.heap.size := by obtain ⟨m, hm⟩ := k5; exact DataW.trod_lt m _ _ _ hm
  have k6 := h6
  have lt6 : ∀ x ∈ p6, x.block < W.heap.size := by obtain ⟨m, hm⟩ := k6; exact DataW.trod_lt m _ _ _ hm
  obtain ⟨x0, a0, cap0, es0, rfl, b0, l0, m0, r0, be0⟩ := openT_net (P := Try.prog) Try.underlying24 (by kernel_rfl) (by kernel_rfl) Try.underlying3 Try.underlying22 (by kernel_rfl) Try.underlying34 (by kernel_rfl) Try.underlying3 Try.underlying3 Try.underlying3 (hval 0 24 v0 rfl rfl) h0
  obtain ⟨x1, rfl, b1⟩ := openT_int Try.underlying3 (hval 1 3 v1 rfl rfl) h1
  obtain ⟨x2, rfl, b2⟩ := openT_int Try.underlying3 (hval 2 3 v2 rfl rfl) h2
  obtain ⟨a3, cap3, x3, rfl, l3, m3, r3, b3⟩ := openT_ints Try.underlying29 (by kernel_rfl) Try.underlying3 (hval 3 29 v3 rfl rfl) h3
  obtain ⟨x4, rfl, b4, c4⟩ := read_p2 Try.underlying90 (by kernel_rfl) (by kernel_rfl) Try.underlying3 Try.underlying3 (hval 4 90 v4 rfl rfl) h4
  obtain ⟨a5, cap5, x5, rfl, l5, m5, r5, b5⟩ := openT_ints Try.underlying29 (by kernel_rfl) Try.underlying3 (hval 5 29 v5 rfl rfl) h5
  obtain ⟨x6, rfl, b6⟩ := openT_int Try.underlying3 (hval 6 3 v6 rfl rfl) h6
  clear hA0 hval0
  refine (walk_FocalRuns x0 a0 cap0 es0 x1 x2 a3 cap3 x3 x4 a5 cap5 x5 x6 W b0 l0 m0 r0 be0 b1 b2 l3 m3 r3 b3 b4 c4 l5 m5 r5 b5 b6).mono fun e W' ⟨he, bel⟩ => ?_
  subst he
  exact ⟨_, rfl, _, _, _, [], _, [], hW', trodAll_mk1 (shut_bool Try.underlying4 _), (trodAll_cons_mk (Below.trod laidOut (by kernel_rfl) (of_decide_eq_true (by kernel_rfl)) k0 bel lt0) (trodAll_cons_mk (Below.trod laidOut (by kernel_rfl) (of_decide_eq_true (by kernel_rfl)) k1 bel lt1) (trodAll_cons_mk (Below.trod laidOut (by kernel_rfl) (of_decide_eq_true (by kernel_rfl)) k2 bel lt2) (trodAll_cons_mk (Below.trod laidOut (by kernel_rfl) (of_decide_eq_true (by kernel_rfl)) k3 bel lt3) (trodAll_cons_mk (Below.trod laidOut (by kernel_rfl) (of_decide_eq_true (by kernel_rfl)) k4 bel lt4) (trodAll_cons_mk (Below.trod laidOut (by kernel_rfl) (of_decide_eq_true (by kernel_rfl)) k5 bel lt5) (trodAll_cons_mk (Below.trod laidOut (by kernel_rfl) (of_decide_eq_true (by kernel_rfl)) k6 bel lt6) trodAll_mk0))))))), rfl, bel.frame _, fun h => by cases h⟩

theorem over_FocalRuns : Rows.focalRunsRow.holds Try.pinned (OpenSpec.ofChange Rows.focalRunsSpec) :=
  OpenClaim.holds_of_wide 10 Try.f10 rfl rfl rfl rfl rfl rfl rfl ⟨rfl, rfl, rfl, rfl, rfl⟩ rfl rfl rfl rfl rfl (by kernel_rfl) Try.func10 (by kernel_rfl)
    (of_decide_eq_true (by kernel_rfl)) (by unfold Func.isWrapper; first | (rw [if_pos (by decide +kernel)]; kernel_rfl) | (rw [if_neg (by decide +kernel)]; exact ⟨rfl, rfl⟩))
    (fun os started H enc _ => lifted_FocalRuns os started H enc)

/-- The given statement. -/
theorem proved_FocalRuns : Rows.FocalRunsSaid := over_FocalRuns
#print axioms proved_FocalRuns

end Go.Proofs.Ytcehdpeeaogpiaa
