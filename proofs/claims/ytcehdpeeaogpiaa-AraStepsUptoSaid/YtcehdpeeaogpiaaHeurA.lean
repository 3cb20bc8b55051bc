/-
  Several texts in one:
  What heur.Check looks at, as lists. No program here.
  What the reference's Guess returns. Condition: the slices read.
  What heur.Check and the reference's Guess return. Condition: the slices read.
  What the reference's Guess returns, whole. Condition: the slices read.
-/
import Derived.Test.YtcehdpeeaogpiaaNetL
import Derived.Test.YtcehdpeeaogpiaaPlainB
import Derived.Test.YtcehdpeeaogpiaaMinMax
import Derived.BigQuiet
import Derived.Deep.QuietTactic
import Derived.Test.YtcehdpeeaogpiaaRowS
/-! What heur.Check looks at, as lists. No program here. -/
namespace Go.Proofs.Ytcehdpeeaogpiaa
def hErr : List Int → Int | [] => 0 | x :: r => if x < 0 ∨ 1099511627776 < x then 1 else hErr r
def eErr (f : Nat → Int) : List Ed → Int | [] => 0 | e :: r => if e.c + f e.v.toNat < f e.u.toNat then 7 else eErr f r
def hAt (h : List Int) (i : Nat) : Int := h.getD i 0
def guessErr (N : Int) (es : List Ed) (t : Int) (h : List Int) : Int :=
  if lookErr N es [t] ≠ 0 then lookErr N es [t] else if (h.length : Int) ≠ N then 1 else if hErr h ≠ 0 then 1 else if hAt h t.toNat ≠ 0 then 7 else eErr (hAt h) es
theorem li_hAt (h : List Int) : LI h.length (hAt h) = h := by
  apply List.ext_getElem
  · simp [LI]
  · intro i h1 h2
    rw [li_get]
    simp [hAt, List.getD, List.getElem?_eq_getElem h2]
theorem hErr_hit {h : List Int} {k : Nat} (hk : k < h.length) (q : h[k] < 0 ∨ 1099511627776 < h[k]) : hErr (h.drop k) = 1 := by
  rw [List.drop_eq_getElem_cons hk, hErr, if_pos q]
theorem hErr_miss {h : List Int} {k : Nat} (hk : k < h.length) (q : ¬ (h[k] < 0 ∨ 1099511627776 < h[k])) : hErr (h.drop k) = hErr (h.drop (k + 1)) := by
  rw [List.drop_eq_getElem_cons hk, hErr, if_neg q]
theorem hErr_all : ∀ {h : List Int}, hErr h = 0 ↔ ∀ x ∈ h, 0 ≤ x ∧ x ≤ 1099511627776
  | [] => by simp [hErr]
  | y :: r => by
    unfold hErr
    split
    · rename_i q
      constructor
      · intro h; omega
      · intro h; have := h y (by simp); omega
    · rename_i q
      rw [hErr_all]
      constructor
      · intro h x hx
        rcases List.mem_cons.1 hx with rfl | hx
        · omega
        · exact h x hx
      · intro h x hx; exact h x (List.mem_cons_of_mem _ hx)
theorem hErr_vals : ∀ (h : List Int), hErr h = 0 ∨ hErr h = 1
  | [] => .inl rfl
  | y :: r => by
    unfold hErr
    split
    · exact .inr rfl
    · exact hErr_vals r
theorem hErr_minmax {h : List Int} (h0 : 0 < h.length) : hErr h = 0 ↔ 0 ≤ minL h ∧ maxL h ≤ 1099511627776 := by
  rw [hErr_all, minL_le h0, maxL_ge h0]
  constructor
  · intro q; exact ⟨fun x hx => (q x hx).1, fun x hx => (q x hx).2⟩
  · intro q x hx; exact ⟨q.1 x hx, q.2 x hx⟩
theorem hAt_range {h : List Int} (q : hErr h = 0) (i : Nat) : 0 ≤ hAt h i ∧ hAt h i ≤ 1099511627776 := by
  unfold hAt
  rw [List.getD]
  cases e : h[i]? with
  | none => simp
  | some x => exact hErr_all.1 q x (List.mem_of_getElem? e)
theorem eErr_hit {f : Nat → Int} {es : List Ed} {k : Nat} (hk : k < es.length) (q : es[k].c + f es[k].v.toNat < f es[k].u.toNat) : eErr f (es.drop k) = 7 := by
  rw [List.drop_eq_getElem_cons hk, eErr, if_pos q]
theorem eErr_miss {f : Nat → Int} {es : List Ed} {k : Nat} (hk : k < es.length) (q : ¬ es[k].c + f es[k].v.toNat < f es[k].u.toNat) : eErr f (es.drop k) = eErr f (es.drop (k + 1)) := by
  rw [List.drop_eq_getElem_cons hk, eErr, if_neg q]
/-- where the first bad edge stands, or -1 -/
def eIdx (f : Nat → Int) : List Ed → Nat → Int | [], _ => -1 | e :: r, k => if e.c + f e.v.toNat < f e.u.toNat then (k : Int) else eIdx f r (k + 1)
theorem eIdx_hit {f : Nat → Int} {es : List Ed} {k : Nat} (hk : k < es.length) (q : es[k].c + f es[k].v.toNat < f es[k].u.toNat) : eIdx f (es.drop k) k = k := by
  rw [List.drop_eq_getElem_cons hk, eIdx, if_pos q]
theorem eIdx_miss {f : Nat → Int} {es : List Ed} {k : Nat} (hk : k < es.length) (q : ¬ es[k].c + f es[k].v.toNat < f es[k].u.toNat) : eIdx f (es.drop k) k = eIdx f (es.drop (k + 1)) (k + 1) := by
  rw [List.drop_eq_getElem_cons hk, eIdx, if_neg q]
theorem eIdx_err (f : Nat → Int) : ∀ (es : List Ed) (k : Nat), decide (0 ≤ eIdx f es k) = decide (eErr f es = 7) ∧ (eErr f es = 7 ∨ eErr f es = 0)
  | [], k => by simp [eIdx, eErr]
  | e :: r, k => by
    unfold eIdx eErr
    split
    · simp
    · exact eIdx_err f r (k + 1)
end Go.Proofs.Ytcehdpeeaogpiaa

/-! What the reference's Guess returns. Condition: the slices read. -/
namespace Go.Proofs.Ytcehdpeeaogpiaa
open Go.RowKit
set_option linter.unusedSimpArgs false
set_option linter.unusedVariables false
set_option maxHeartbeats 1000000 in
theorem guess1_any (n : Nat) (f : Nat → Int) (ah : Option Addr) (ch hb : Nat) (u v : Nat) (c : Int) (w : World) (B : Nat) (hE : Row encI 1 w B ah (LI n f)) (hk : w.cell? ⟨hb, 0, none⟩ = some (.slice ah n ch)) (hu : u < n) (hv : v < n) (hf : ∀ i, 0 ≤ f i ∧ f i ≤ 1099511627776) (hc : -10000 ≤ c ∧ c ≤ 10000) (b : Bool) (hB : b = decide (c + f v < f u)) :
    Calls Try.prog 180 #[.agg #[.int .i64 (u : Int), .int .i64 (v : Int), .int .i64 c], .pointer (some ⟨hb, 0, none⟩)] w fun e' w' => e' = .returned (.bool b) ∧ Below w.heap.size w w' := by
  obtain ⟨b1, o1, rfl, hb1, c1⟩ := hE.atI u hu
  obtain ⟨b2, o2, e2, hb2, c2⟩ := hE.atI v hv
  simp only [Option.some.injEq, Addr.mk.injEq] at e2
  obtain ⟨rfl, rfl, _⟩ := e2
  have hl1 := cell_lt c1
  have hl2 := cell_lt hk
  have h1 := hf u
  have h2 := hf v
  have iu : (0 : Int) ≤ (u : Int) ∧ (u : Int) < (n : Int) := by omega
  have iv : (0 : Int) ≤ (v : Int) ∧ (v : Int) < (n : Int) := by omega
  obtain ⟨x, hx⟩ : ∃ x, x = f u := ⟨_, rfl⟩
  obtain ⟨y, hy⟩ : ∃ y, y = f v := ⟨_, rfl⟩
  rw [← hx] at c1 h1 hB
  rw [← hy] at c2 h2 hB
  replace hx := hide hx
  replace hy := hide hy
  cases b with
  | true =>
    have q : y < x - c := by have := of_decide_eq_true hB.symm; omega
    replace hB := hide hB
    clear hf
    have hw := hide (show IntKind.i64.wrap (x - c) = x - c from IntWalk.i64_in _ (by omega))
    go_enter Try.func180, Try.ntmps180
    go_wp2
    replace hw := hw.out
    go_quiet (fail)
    clear hw
    go_wp2
    go_ret
    exact ⟨ret_bool (by simp <;> omega), (by repeat (first | with_reducible exact Below.refl _ _ | with_reducible assumption | with_reducible refine up_drewN ?_ | with_reducible refine up_drew ?_ | (with_reducible refine up_alloc ?_ ?_; rotate_left; (first | omega | (simp <;> omega) | simp)) | (with_reducible refine up_set ?_ ?_; rotate_left; (first | omega | (simp <;> omega) | simp)) | (with_reducible refine Below.trans ?_ (Below.mono (by with_reducible assumption) ?_); rotate_left; (first | omega | (simp <;> omega) | simp))))⟩
  | false =>
    have q : ¬ y < x - c := by have := of_decide_eq_false hB.symm; omega
    replace hB := hide hB
    clear hf
    have hw := hide (show IntKind.i64.wrap (x - c) = x - c from IntWalk.i64_in _ (by omega))
    go_enter Try.func180, Try.ntmps180
    go_wp2
    replace hw := hw.out
    go_quiet (fail)
    clear hw
    go_wp2
    go_ret
    exact ⟨ret_bool (by simp <;> omega), (by repeat (first | with_reducible exact Below.refl _ _ | with_reducible assumption | with_reducible refine up_drewN ?_ | with_reducible refine up_drew ?_ | (with_reducible refine up_alloc ?_ ?_; rotate_left; (first | omega | (simp <;> omega) | simp)) | (with_reducible refine up_set ?_ ?_; rotate_left; (first | omega | (simp <;> omega) | simp)) | (with_reducible refine Below.trans ?_ (Below.mono (by with_reducible assumption) ?_); rotate_left; (first | omega | (simp <;> omega) | simp))))⟩
set_option maxHeartbeats 2000000 in
theorem ixg_any (n : Nat) (f : Nat → Int) (ah : Option Addr) (ch hb : Nat) (a : Option Addr) (cap : Nat) (es : List Ed) (w : World) (B : Nat) (hB : B ≤ w.heap.size) (hE : Row encE 3 w B a es) (hl : es.length ≤ 600) (hes : Right n es) (hH : Row encI 1 w B ah (LI n f)) (hk : w.cell? ⟨hb, 0, none⟩ = some (.slice ah n ch)) (hf : ∀ i, 0 ≤ f i ∧ f i ≤ 1099511627776) :
    Calls Try.prog 88 #[.slice a es.length cap, .func (.func 180) #[] #[.pointer (some ⟨hb, 0, none⟩)]] w fun e w' => e = .returned (.int .i64 (eIdx f es 0)) ∧ Below w.heap.size w w' := by
  replace hE := hide hE
  replace hes := hide hes
  replace hH := hide hH
  replace hf := hide hf
  go_enter Try.func88, Try.ntmps88
  go_wp2
  go_loopw [8] (fun i wr => ∃ k : Nat, k ≤ es.length ∧ i = .int .i64 k ∧ Hid (eIdx f es 0 = eIdx f (es.drop k) k) ∧ Hid (Below w.heap.size w wr)) (fun i _ => es.length - (intOf i).toNat)
  case atStart => exact ⟨0, Nat.zero_le _, rfl, rfl, Below.refl _ _⟩
  case round =>
    obtain ⟨k, hkl, rfl, hrest, hb'⟩ := hrel
    by_cases hlt : k < es.length
    · obtain ⟨u, v, e1, e2, e3, e4, e5, e6, -⟩ := right_edge hes.out k hlt
      obtain ⟨b, o, rfl, hbB, c0, c1, c2⟩ := hE.out.ed k hlt
      have c0 := cu_below hb'.out c0 (by simp; omega)
      have c1 := cu_below hb'.out c1 (by simp; omega)
      have c2 := cu_below hb'.out c2 (by simp; omega)
      rw [e1] at c0
      rw [e2] at c1
      have hz := hb'.out.size
      have ku := cu_below hb'.out hk (cell_lt hk)
      have hHr := hide (hH.out.below hb'.out hB)
      have q1 : ∀ c, (es[k].c + f es[k].v.toNat < f es[k].u.toNat) = (es[k].c + f v < f u) ∨ c = c := fun c => .inr rfl
      clear q1
      have qe : (es[k].c + f es[k].v.toNat < f es[k].u.toNat) ↔ (es[k].c + f v < f u) := by rw [e1, e2]; simp
      by_cases q : es[k].c + f v < f u
      · have hq := hide (eIdx_hit (f := f) hlt (qe.2 q))
        have hG := hide (guess1_any n f ah ch hb u v es[k].c wr B hHr.out ku e3 e4 hf.out ⟨e5, e6⟩ true (by simp [q]))
        clear qe q e5 e6
        obtain ⟨c, hc⟩ : ∃ c, c = es[k].c := ⟨_, rfl⟩
        rw [← hc] at hG c2
        replace hc := hide hc
        replace e1 := hide e1
        replace e2 := hide e2
        go_wp2_with fail
        refine hG.out.mono ?_
        rintro e w1 ⟨rfl, hb1⟩
        go_wp2
        go_ret
        exact ⟨ret_int (by rw [hrest.out, hq.out]), hb'.out.trans (hb1.mono hz)⟩
      · have hq := hide (eIdx_miss (f := f) hlt (fun h => q (qe.1 h)))
        have hG := hide (guess1_any n f ah ch hb u v es[k].c wr B hHr.out ku e3 e4 hf.out ⟨e5, e6⟩ false (by simp [q]))
        clear qe q e5 e6
        obtain ⟨c, hc⟩ : ∃ c, c = es[k].c := ⟨_, rfl⟩
        rw [← hc] at hG c2
        replace hc := hide hc
        replace e1 := hide e1
        replace e2 := hide e2
        go_wp2_with fail
        refine hG.out.mono ?_
        rintro e w1 ⟨rfl, hb1⟩
        go_wp2
        go_roundw
        case rel => exact ⟨k + 1, by omega, by go_num, hide (by rw [hrest.out]; exact hq.out), hide (hb'.out.trans (hb1.mono hz))⟩
        case measure => simp [intOf]; omega
    · go_wp2
      go_ret
      refine ⟨ret_int ?_, hb'.out⟩
      rw [hrest.out, List.drop_eq_nil_of_le (by omega)]
      rfl
theorem cg_any (n : Nat) (f : Nat → Int) (ah : Option Addr) (ch hb : Nat) (a : Option Addr) (cap : Nat) (es : List Ed) (w : World) (B : Nat) (hB : B ≤ w.heap.size) (hE : Row encE 3 w B a es) (hl : es.length ≤ 600) (hes : Right n es) (hH : Row encI 1 w B ah (LI n f)) (hk : w.cell? ⟨hb, 0, none⟩ = some (.slice ah n ch)) (hf : ∀ i, 0 ≤ f i ∧ f i ≤ 1099511627776) :
    Calls Try.prog 105 #[.slice a es.length cap, .func (.func 180) #[] #[.pointer (some ⟨hb, 0, none⟩)]] w fun e w' => e = .returned (.bool (decide (eErr f es = 7))) ∧ Below w.heap.size w w' := by
  have hG := hide (ixg_any n f ah ch hb a cap es w B hB hE hl hes hH hk hf)
  have hl2 := hide (eIdx_err f es 0).1
  clear hE hes hH hf
  go_enter Try.func105, Try.ntmps105
  go_wp2_with fail
  refine hG.out.mono ?_
  rintro e w1 ⟨rfl, hb1⟩
  go_wp2
  go_ret
  exact ⟨ret_bool hl2.out, hb1⟩
end Go.Proofs.Ytcehdpeeaogpiaa

/-! What heur.Check and the reference's Guess return. Condition: the slices read. -/
namespace Go.Proofs.Ytcehdpeeaogpiaa
open Go.RowKit
set_option linter.unusedSimpArgs false
set_option linter.unusedVariables false
theorem row1' {w : World} {b : Nat} {x : Int} (h : w.cell? ⟨b, 0, none⟩ = some (.int .i64 x)) (B : Nat) (hB : w.heap.size ≤ B) : Row encI 1 w B (some ⟨b, 0, none⟩) [x] := (row1 h).mono hB
set_option maxRecDepth 100000 in
set_option maxHeartbeats 2000000 in
theorem hcheck_bad (N : Int) (a : Option Addr) (cap : Nat) (es : List Ed) (x : Int) (ah : Option Addr) (ch : Nat) (h : List Int) (w : World) (B : Nat) (hB : B ≤ w.heap.size) (hE : Row encE 3 w B a es) (hl : es.length ≤ 9223372036854775807) (h0 : lookErr N es [x] ≠ 0) :
    Calls Try.prog 108 #[.agg #[.int .i64 N, .slice a es.length cap], .int .i64 x, .slice ah h.length ch] w fun e w' => e = .returned (.int .i64 (lookErr N es [x])) ∧ Below w.heap.size w w' := by
  have q0 : (lookErr N es [x] != 0) = true := by simp [h0]
  have hL := hide (fun a1 c1 w B hB hE hP => look_any N a cap es a1 c1 1 [x] rfl w B hB hE hP hl (by omega))
  replace hE := hide hE
  clear h0
  go_enter Try.func108, Try.ntmps108
  go_wp2_with fail
  refine (hL.out _ _ _ (w.heap.size + 1 + 1) (by simp) ((hE.out.below ((by repeat (first | with_reducible exact Below.refl _ _ | with_reducible assumption | with_reducible refine up_drewN ?_ | with_reducible refine up_drew ?_ | (with_reducible refine up_alloc ?_ ?_; rotate_left; (first | omega | (simp <;> omega) | simp)) | (with_reducible refine up_set ?_ ?_; rotate_left; (first | omega | (simp <;> omega) | simp)) | (with_reducible refine Below.trans ?_ (Below.mono (by with_reducible assumption) ?_); rotate_left; (first | omega | (simp <;> omega) | simp)))) : Below w.heap.size w _) hB).mono (by omega)) ((row1 (by simp [go_sem])).mono (by simp))).mono ?_
  rintro e w1 ⟨rfl, hb1⟩
  go_wp2
  go_ret
  exact ⟨rfl, (by repeat (first | with_reducible exact Below.refl _ _ | with_reducible assumption | with_reducible refine up_drewN ?_ | with_reducible refine up_drew ?_ | (with_reducible refine up_alloc ?_ ?_; rotate_left; (first | omega | (simp <;> omega) | simp)) | (with_reducible refine up_set ?_ ?_; rotate_left; (first | omega | (simp <;> omega) | simp)) | (with_reducible refine Below.trans ?_ (Below.mono (by with_reducible assumption) ?_); rotate_left; (first | omega | (simp <;> omega) | simp))))⟩
set_option maxRecDepth 100000 in
set_option maxHeartbeats 4000000 in
theorem hcheck_ok (n : Nat) (a : Option Addr) (cap : Nat) (es : List Ed) (t : Nat) (ah : Option Addr) (ch : Nat) (h : List Int) (w : World) (B : Nat) (hB : B ≤ w.heap.size) (hE : Row encE 3 w B a es) (hH : Row encI 1 w B ah h) (hl : es.length ≤ 9223372036854775807) (hl2 : h.length ≤ 9223372036854775807) (h0 : lookErr (n : Int) es [(t : Int)] = 0) :
    Calls Try.prog 108 #[.agg #[.int .i64 (n : Int), .slice a es.length cap], .int .i64 (t : Int), .slice ah h.length ch] w fun e w' => e = .returned (.int .i64 (guessErr (n : Int) es (t : Int) h)) ∧ Below w.heap.size w w' := by
  have hr0 := hide (show guessErr (n : Int) es (t : Int) h = if (h.length : Int) ≠ n then 1 else if hErr h ≠ 0 then 1 else if hAt h t ≠ 0 then 7 else eErr (hAt h) es by unfold guessErr; rw [if_neg (by simp [h0])]; simp)
  obtain ⟨g1, g2⟩ := look_ok h0
  obtain ⟨g3, g4⟩ := posErr_ok g1
  obtain ⟨n1, n2, n3, n4⟩ := netErr_ok g3
  have ht : t < n := by have := g2 t (by simp); omega
  have hes := hide (show Right n es from n4)
  have hL := hide (fun a1 c1 w B hB hE hP => by have := look_any (n : Int) a cap es a1 c1 1 [(t : Int)] rfl w B hB hE hP hl (by omega); rw [h0] at this; exact this)
  replace hE := hide hE
  replace hH := hide hH
  clear h0 g1 g2 g3 g4 n4
  by_cases hlen : h.length = n
  · have hr := hide (show guessErr (n : Int) es (t : Int) h = if hErr h ≠ 0 then 1 else if hAt h t ≠ 0 then 7 else eErr (hAt h) es by rw [hr0.out, if_neg (by omega)])
    subst hlen
    clear hr0
    go_enter Try.func108, Try.ntmps108
    go_wp2_with fail
    refine (hL.out _ _ _ (w.heap.size + 1 + 1) (by simp) ((hE.out.below ((by repeat (first | with_reducible exact Below.refl _ _ | with_reducible assumption | with_reducible refine up_drewN ?_ | with_reducible refine up_drew ?_ | (with_reducible refine up_alloc ?_ ?_; rotate_left; (first | omega | (simp <;> omega) | simp)) | (with_reducible refine up_set ?_ ?_; rotate_left; (first | omega | (simp <;> omega) | simp)) | (with_reducible refine Below.trans ?_ (Below.mono (by with_reducible assumption) ?_); rotate_left; (first | omega | (simp <;> omega) | simp)))) : Below w.heap.size w _) hB).mono (by omega)) ((row1 (by simp [go_sem])).mono (by simp))).mono ?_
    rintro e w1 ⟨rfl, hb1⟩
    have k0 : w1.cell? ⟨w.heap.size, 0, none⟩ = some (.int .i64 (h.length : Int)) := cu_below hb1 (by simp [go_sem]) (by simp <;> omega)
    have k1 : w1.cell? ⟨w.heap.size, 1, none⟩ = some (.slice a es.length cap) := cu_below hb1 (by simp [go_sem]) (by simp <;> omega)
    have hbw := hide (unalloc (unalloc (hb1.mono (by simp <;> omega)) (by simp)) (Nat.le_refl _) : Below w.heap.size w w1)
    have hz1 : w.heap.size < w1.heap.size := cell_lt k0
    clear hb1
    have hH1 := hide (hH.out.below hbw.out hB)
    go_wp2
    go_loopw [9, 26] (fun _ i wr => ∃ k : Nat, k ≤ h.length ∧ i = .int .i64 k ∧ Hid (hErr h = hErr (h.drop k)) ∧ w1 = wr) (fun _ i _ => h.length - (intOf i).toNat)
    case atStart => exact ⟨0, Nat.zero_le _, rfl, rfl, rfl⟩
    case round =>
      obtain ⟨k, hk, rfl, hrest, rfl⟩ := hrel
      by_cases hlt : k < h.length
      · obtain ⟨b, o, rfl, hbB, e1⟩ := hH1.out.int k hlt
        have hbl := cell_lt e1
        obtain ⟨x, hx⟩ : ∃ x, x = h[k] := ⟨_, rfl⟩
        rw [← hx] at e1
        replace hx := hide hx
        by_cases q : x < 0 ∨ 1099511627776 < x
        · have hq := hide (hErr_hit hlt (by rw [← hx.out]; exact q))
          have q2 : x < 0 ∨ (0 ≤ x ∧ 1099511627776 < x) := by omega
          clear q
          rcases q2 with q | ⟨q0, q⟩
          all_goals
            go_wp2
            go_ret
            exact ⟨ret_int (by rw [hr.out, hrest.out, hq.out, if_pos (by simp)]), hbw.out⟩
        · have hq := hide (hErr_miss hlt (by rw [← hx.out]; exact q))
          have q1 : 0 ≤ x := by omega
          have q2 : x ≤ 1099511627776 := by omega
          clear q
          go_wp2
          go_roundw
          case rel => exact ⟨k + 1, by omega, by go_num, hide (by rw [hrest.out, hq.out]), (by first | rfl | trivial)⟩
          case measure => simp [intOf]; omega
      · have hz : hErr h = 0 := by rw [hrest.out, List.drop_eq_nil_of_le (by omega)]; rfl
        have hf := hide (hAt_range hz)
        have hr2 := hide (show guessErr (h.length : Int) es (t : Int) h = if hAt h t ≠ 0 then 7 else eErr (hAt h) es by rw [hr.out, if_neg (by simp [hz])])
        have hHL : Row encI 1 w1 B ah (LI h.length (hAt h)) := by rw [li_hAt]; exact hH1.out
        clear hz hr hrest
        obtain ⟨b, o, rfl, hbB, e1⟩ := hHL.atI t ht
        replace hHL := hide hHL
        have hbl := cell_lt e1
        have it : (0 : Int) ≤ (t : Int) ∧ (t : Int) < (h.length : Int) := by omega
        obtain ⟨x, hx⟩ : ∃ x, x = hAt h t := ⟨_, rfl⟩
        rw [← hx] at e1
        replace hx := hide hx
        by_cases q : x = 0
        · subst q
          have hr3 := hide (show guessErr (h.length : Int) es (t : Int) h = eErr (hAt h) es by rw [hr2.out, if_neg (by simp [← hx.out])])
          clear hr2
          go_wp2
          go_loopw [45] (fun i wr => ∃ k : Nat, k ≤ es.length ∧ i = .int .i64 k ∧ Hid (eErr (hAt h) es = eErr (hAt h) (es.drop k)) ∧ Hid (Below w1.heap.size w1 wr)) (fun i _ => es.length - (intOf i).toNat)
          case atStart => exact ⟨0, Nat.zero_le _, rfl, rfl, Below.refl _ _⟩
          case round =>
            obtain ⟨k, hk, rfl, hrest, hb'⟩ := hrel
            have hbr := hide (hbw.out.trans (hb'.out.mono (by omega)))
            have hzr := hb'.out.size
            by_cases hlt : k < es.length
            · obtain ⟨u, v, d1, d2, d3, d4, d5, d6, -⟩ := right_edge hes.out k hlt
              obtain ⟨b2, o2, rfl, hbB2, c0, c1, c2⟩ := hE.out.ed k hlt
              have c0 := cu_below hbr.out c0 (by simp; omega)
              have c1 := cu_below hbr.out c1 (by simp; omega)
              have c2 := cu_below hbr.out c2 (by simp; omega)
              rw [d1] at c0
              rw [d2] at c1
              have hHr := (hHL.out.below hb'.out (by omega))
              obtain ⟨b3, o3, e3, hb3, f1⟩ := hHr.atI u d3
              simp only [Option.some.injEq, Addr.mk.injEq] at e3
              obtain ⟨rfl, rfl, _⟩ := e3
              obtain ⟨b3, o3, e3, _, f2⟩ := hHr.atI v d4
              simp only [Option.some.injEq, Addr.mk.injEq] at e3
              obtain ⟨rfl, rfl, _⟩ := e3
              have qe : (es[k].c + hAt h es[k].v.toNat < hAt h es[k].u.toNat) ↔ (es[k].c + hAt h v < hAt h u) := by rw [d1, d2]; simp
              have g1 := hf.out u
              have g2 := hf.out v
              have hit := eErr_hit (f := hAt h) hlt
              have miss := eErr_miss (f := hAt h) hlt
              rw [qe] at hit miss
              clear qe hHr
              obtain ⟨c, hc⟩ : ∃ c, c = es[k].c := ⟨_, rfl⟩
              obtain ⟨p, hp⟩ : ∃ p, p = hAt h u := ⟨_, rfl⟩
              obtain ⟨r, hr⟩ : ∃ r, r = hAt h v := ⟨_, rfl⟩
              rw [← hc] at hit miss c2 d5 d6
              rw [← hp] at hit miss f1 g1
              rw [← hr] at hit miss f2 g2
              replace hit := hide hit
              replace miss := hide miss
              replace hc := hide hc
              replace hp := hide hp
              replace hr := hide hr
              replace d1 := hide d1
              replace d2 := hide d2
              have l0 := cell_lt c0
              have l1 := cell_lt f1
              have k3 := cu_below hb'.out k1 hz1
              have iu : (0 : Int) ≤ (u : Int) ∧ (u : Int) < (h.length : Int) := by omega
              have iv : (0 : Int) ≤ (v : Int) ∧ (v : Int) < (h.length : Int) := by omega
              have ik : (0 : Int) ≤ (k : Int) ∧ (k : Int) < (es.length : Int) := by omega
              have hw := hide (show IntKind.i64.wrap (c + r) = c + r from IntWalk.i64_in _ (by omega))
              by_cases q : c + r < p
              · have hq := hide (hit.out q)
                go_wp2
                replace hw := hw.out
                go_quiet (fail)
                clear hw
                go_wp2
                go_ret
                exact ⟨ret_int (by rw [hr3.out, hrest.out, hq.out]), up_drewN (up_alloc hbr.out (by omega))⟩
              · have hq := hide (miss.out q)
                go_wp2
                replace hw := hw.out
                go_quiet (fail)
                clear hw
                go_wp2
                go_roundw
                case rel => exact ⟨k + 1, by omega, by go_num, hide (by rw [hrest.out]; exact hq.out), hide (up_drewN (up_alloc hb'.out hzr))⟩
                case measure => simp [intOf]; omega
            · go_wp2
              go_ret
              refine ⟨ret_int ?_, hbr.out⟩
              rw [hr3.out, hrest.out, List.drop_eq_nil_of_le (by omega)]
              rfl
        · have hr3 := hide (show guessErr (h.length : Int) es (t : Int) h = 7 by rw [hr2.out, if_pos (by rw [← hx.out]; exact q)])
          have q2 : (x != 0) = true := by simp [q]
          clear q hr2
          go_wp2
          go_ret
          exact ⟨ret_int hr3.out.symm, hbw.out⟩
  · have hr := hide (show guessErr (n : Int) es (t : Int) h = 1 by rw [hr0.out, if_pos (by omega)])
    have q0 : ((h.length : Int) != (n : Int)) = true := by simp; omega
    clear hr0 hlen
    go_enter Try.func108, Try.ntmps108
    go_wp2_with fail
    refine (hL.out _ _ _ (w.heap.size + 1 + 1) (by simp) ((hE.out.below ((by repeat (first | with_reducible exact Below.refl _ _ | with_reducible assumption | with_reducible refine up_drewN ?_ | with_reducible refine up_drew ?_ | (with_reducible refine up_alloc ?_ ?_; rotate_left; (first | omega | (simp <;> omega) | simp)) | (with_reducible refine up_set ?_ ?_; rotate_left; (first | omega | (simp <;> omega) | simp)) | (with_reducible refine Below.trans ?_ (Below.mono (by with_reducible assumption) ?_); rotate_left; (first | omega | (simp <;> omega) | simp)))) : Below w.heap.size w _) hB).mono (by omega)) ((row1 (by simp [go_sem])).mono (by simp))).mono ?_
    rintro e w1 ⟨rfl, hb1⟩
    have k0 : w1.cell? ⟨w.heap.size, 0, none⟩ = some (.int .i64 (n : Int)) := cu_below hb1 (by simp [go_sem]) (by simp <;> omega)
    have hbw := hide (unalloc (unalloc (hb1.mono (by simp <;> omega)) (by simp)) (Nat.le_refl _) : Below w.heap.size w w1)
    have hz1 : w.heap.size < w1.heap.size := cell_lt k0
    clear hb1
    go_wp2
    go_ret
    exact ⟨ret_int hr.out.symm, hbw.out⟩
end Go.Proofs.Ytcehdpeeaogpiaa

/-! What the reference's Guess returns, whole. Condition: the slices read. -/
namespace Go.Proofs.Ytcehdpeeaogpiaa
open Go.RowKit
set_option linter.unusedSimpArgs false
set_option linter.unusedVariables false
set_option maxRecDepth 100000 in
set_option maxHeartbeats 2000000 in
theorem rguess_bad (N : Int) (a : Option Addr) (cap : Nat) (es : List Ed) (x : Int) (ah : Option Addr) (ch : Nat) (h : List Int) (w : World) (B : Nat) (hB : B ≤ w.heap.size) (hE : Row encE 3 w B a es) (hl : es.length ≤ 9223372036854775807) (h0 : lookErr N es [x] ≠ 0) :
    Calls Try.prog 107 #[.agg #[.int .i64 N, .slice a es.length cap], .int .i64 x, .slice ah h.length ch] w fun e w' => e = .returned (.int .i64 (lookErr N es [x])) ∧ Below w.heap.size w w' := by
  have q0 : (lookErr N es [x] != 0) = true := by simp [h0]
  have hL := hide (fun a1 c1 w B hB hE hP => rlook_any N a cap es a1 c1 1 [x] rfl w B hB hE hP hl (by omega))
  replace hE := hide hE
  clear h0
  go_enter Try.func107, Try.ntmps107
  go_wp2_with fail
  refine (hL.out _ _ _ (w.heap.size + 1 + 1 + 1) (by simp) ((hE.out.below ((by repeat (first | with_reducible exact Below.refl _ _ | with_reducible assumption | with_reducible refine up_drewN ?_ | with_reducible refine up_drew ?_ | (with_reducible refine up_alloc ?_ ?_; rotate_left; (first | omega | (simp <;> omega) | simp)) | (with_reducible refine up_set ?_ ?_; rotate_left; (first | omega | (simp <;> omega) | simp)) | (with_reducible refine Below.trans ?_ (Below.mono (by with_reducible assumption) ?_); rotate_left; (first | omega | (simp <;> omega) | simp)))) : Below w.heap.size w _) hB).mono (by omega)) ((row1 (by simp [go_sem])).mono (by simp))).mono ?_
  rintro e w1 ⟨rfl, hb1⟩
  go_wp2
  go_ret
  exact ⟨rfl, (by repeat (first | with_reducible exact Below.refl _ _ | with_reducible assumption | with_reducible refine up_drewN ?_ | with_reducible refine up_drew ?_ | (with_reducible refine up_alloc ?_ ?_; rotate_left; (first | omega | (simp <;> omega) | simp)) | (with_reducible refine up_set ?_ ?_; rotate_left; (first | omega | (simp <;> omega) | simp)) | (with_reducible refine Below.trans ?_ (Below.mono (by with_reducible assumption) ?_); rotate_left; (first | omega | (simp <;> omega) | simp))))⟩
set_option maxRecDepth 100000 in
set_option maxHeartbeats 4000000 in
theorem rguess_ok (n : Nat) (a : Option Addr) (cap : Nat) (es : List Ed) (t : Nat) (ah : Option Addr) (ch : Nat) (h : List Int) (w : World) (B : Nat) (hB : B ≤ w.heap.size) (hE : Row encE 3 w B a es) (hH : Row encI 1 w B ah h) (hl : es.length ≤ 9223372036854775807) (hl2 : h.length ≤ 9223372036854775807) (h0 : lookErr (n : Int) es [(t : Int)] = 0) :
    Calls Try.prog 107 #[.agg #[.int .i64 (n : Int), .slice a es.length cap], .int .i64 (t : Int), .slice ah h.length ch] w fun e w' => e = .returned (.int .i64 (guessErr (n : Int) es (t : Int) h)) ∧ Below w.heap.size w w' := by
  have hr0 := hide (show guessErr (n : Int) es (t : Int) h = if (h.length : Int) ≠ n then 1 else if hErr h ≠ 0 then 1 else if hAt h t ≠ 0 then 7 else eErr (hAt h) es by unfold guessErr; rw [if_neg (by simp [h0])]; simp)
  obtain ⟨g1, g2⟩ := look_ok h0
  obtain ⟨g3, g4⟩ := posErr_ok g1
  obtain ⟨n1, n2, n3, n4⟩ := netErr_ok g3
  have ht : t < n := by have := g2 t (by simp); omega
  have hes := hide (show Right n es from n4)
  have hL := hide (fun a1 c1 w B hB hE hP => by have := rlook_any (n : Int) a cap es a1 c1 1 [(t : Int)] rfl w B hB hE hP hl (by omega); rw [h0] at this; exact this)
  replace hE := hide hE
  replace hH := hide hH
  clear h0 g1 g2 g3 g4 n4
  by_cases hlen : h.length = n
  · have hr := hide (show guessErr (n : Int) es (t : Int) h = if hErr h ≠ 0 then 1 else if hAt h t ≠ 0 then 7 else eErr (hAt h) es by rw [hr0.out, if_neg (by omega)])
    subst hlen
    clear hr0
    have hmm := hide (hErr_minmax (h := h) (by omega))
    have hv := hide (hErr_vals h)
    have hMin := hide (fun w B hE => smin_any ah ch h w B hE (by omega) hl2)
    have hMax := hide (fun w B hE => smax_any ah ch h w B hE (by omega) hl2)
    obtain ⟨mi, hmi⟩ : ∃ m, m = minL h := ⟨_, rfl⟩
    obtain ⟨ma, hma⟩ : ∃ m, m = maxL h := ⟨_, rfl⟩
    rw [← hmi] at hMin hmm
    rw [← hma] at hMax hmm
    replace hmi := hide hmi
    replace hma := hide hma
    go_enter Try.func107, Try.ntmps107
    go_wp2_with fail
    refine (hL.out _ _ _ (w.heap.size + 1 + 1 + 1) (by simp) ((hE.out.below ((by repeat (first | with_reducible exact Below.refl _ _ | with_reducible assumption | with_reducible refine up_drewN ?_ | with_reducible refine up_drew ?_ | (with_reducible refine up_alloc ?_ ?_; rotate_left; (first | omega | (simp <;> omega) | simp)) | (with_reducible refine up_set ?_ ?_; rotate_left; (first | omega | (simp <;> omega) | simp)) | (with_reducible refine Below.trans ?_ (Below.mono (by with_reducible assumption) ?_); rotate_left; (first | omega | (simp <;> omega) | simp)))) : Below w.heap.size w _) hB).mono (by omega)) ((row1 (by simp [go_sem])).mono (by simp))).mono ?_
    rintro e w1 ⟨rfl, hb1⟩
    have k0 : w1.cell? ⟨w.heap.size, 0, none⟩ = some (.int .i64 (h.length : Int)) := cu_below hb1 (by simp [go_sem]) (by simp <;> omega)
    have k1 : w1.cell? ⟨w.heap.size, 1, none⟩ = some (.slice a es.length cap) := cu_below hb1 (by simp [go_sem]) (by simp <;> omega)
    have k2 : w1.cell? ⟨w.heap.size + 1, 0, none⟩ = some (.slice ah h.length ch) := cu_below hb1 (by simp [go_sem]) (by simp <;> omega)
    have hbw := hide (unalloc (unalloc (unalloc (hb1.mono (by simp <;> omega)) (by simp <;> omega)) (by simp)) (Nat.le_refl _) : Below w.heap.size w w1)
    have hz1 : w.heap.size + 1 < w1.heap.size := cell_lt k2
    have hz0 : w.heap.size < w1.heap.size := by omega
    clear hb1
    have hH1 := hide (hH.out.below hbw.out hB)
    have hE1 := hide (hE.out.below hbw.out hB)
    by_cases q1 : mi < 0
    · have hr2 := hide (show guessErr (h.length : Int) es (t : Int) h = 1 by
        rw [hr.out, if_pos]; intro h0; have := (hmm.out.1 h0).1; omega)
      go_wp2_with fail
      refine (hMin.out _ B hH1.out).mono ?_
      rintro e w2 ⟨rfl, m2, rfl⟩
      go_wp2
      go_ret
      exact ⟨ret_int hr2.out.symm, up_drewN hbw.out⟩
    by_cases q2 : 1099511627776 < ma
    · have hr2 := hide (show guessErr (h.length : Int) es (t : Int) h = 1 by
        rw [hr.out, if_pos]; intro h0; have := (hmm.out.1 h0).2; omega)
      have q1' : 0 ≤ mi := by omega
      clear q1
      go_wp2_with fail
      refine (hMin.out _ B hH1.out).mono ?_
      rintro e w2 ⟨rfl, m2, rfl⟩
      go_wp2_with fail
      refine (hMax.out _ B (hH1.out.below (up_drewN (Below.refl _ _)) (by omega))).mono ?_
      rintro e w2 ⟨rfl, m3, rfl⟩
      go_wp2
      go_ret
      exact ⟨ret_int hr2.out.symm, up_drewN hbw.out⟩
    have hz : hErr h = 0 := hmm.out.2 ⟨by omega, by omega⟩
    have q1' : 0 ≤ mi := by omega
    have q2' : ma ≤ 1099511627776 := by omega
    have hf := hide (hAt_range hz)
    have hr2 := hide (show guessErr (h.length : Int) es (t : Int) h = if hAt h t ≠ 0 then 7 else eErr (hAt h) es by rw [hr.out, if_neg (by simp [hz])])
    have hHL : Row encI 1 w1 B ah (LI h.length (hAt h)) := by rw [li_hAt]; exact hH1.out
    clear hz hr hmm q1 q2
    have hC := hide (fun W (hb : Below w1.heap.size w1 W) => cg_any h.length (hAt h) ah ch (w.heap.size + 1) a cap es W B (Nat.le_trans (by omega) hb.size) (hE1.out.below hb (by omega)) n3 hes.out (hHL.below hb (by omega)) (cu_below hb k2 hz1) hf.out)
    have hev := hide (eIdx_err (hAt h) es 0).2
    obtain ⟨b, o, rfl, hbB, e1⟩ := hHL.atI t ht
    replace hHL := hide hHL
    have hbl := cell_lt e1
    have it : (0 : Int) ≤ (t : Int) ∧ (t : Int) < (h.length : Int) := by omega
    have g0 := hf.out t
    obtain ⟨x, hx⟩ : ∃ x, x = hAt h t := ⟨_, rfl⟩
    rw [← hx] at e1 g0
    replace hx := hide hx
    by_cases q : x = 0
    · subst q
      have hr3 := hide (show guessErr (h.length : Int) es (t : Int) h = eErr (hAt h) es by rw [hr2.out, if_neg (by simp [← hx.out])])
      obtain ⟨b7, hb7⟩ : ∃ b, b = decide (eErr (hAt h) es = 7) := ⟨_, rfl⟩
      rw [← hb7] at hC
      replace hb7 := hide hb7
      clear hr2 g0
      cases b7
      all_goals
        go_wp2_with fail
        refine (hMin.out _ B hH1.out).mono ?_
        rintro e w2 ⟨rfl, m2, rfl⟩
        go_wp2_with fail
        refine (hMax.out _ B (hH1.out.below (up_drewN (Below.refl _ _)) (by omega))).mono ?_
        rintro e w2 ⟨rfl, m3, rfl⟩
        go_wp2_with fail
        refine (hC.out _ (up_drewN (Below.refl _ _))).mono ?_
        rintro e w3 ⟨rfl, hb3⟩
        go_wp2
        go_ret
        refine ⟨ret_int ?_, (up_drewN hbw.out).trans (hb3.mono (by simp; omega))⟩
        have h1 := hb7.out
        have h2 := hev.out
        rw [hr3.out]
        rcases h2 with h2 | h2 <;> rw [h2] at h1 ⊢ <;> simp at h1
    · have hr3 := hide (show guessErr (h.length : Int) es (t : Int) h = 7 by rw [hr2.out, if_pos (by rw [← hx.out]; exact q)])
      have q3 : 0 < x := by omega
      clear q hr2 g0
      go_wp2_with fail
      refine (hMin.out _ B hH1.out).mono ?_
      rintro e w2 ⟨rfl, m2, rfl⟩
      go_wp2_with fail
      refine (hMax.out _ B (hH1.out.below (up_drewN (Below.refl _ _)) (by omega))).mono ?_
      rintro e w2 ⟨rfl, m3, rfl⟩
      go_wp2
      go_ret
      exact ⟨ret_int hr3.out.symm, up_drewN hbw.out⟩
  · have hr := hide (show guessErr (n : Int) es (t : Int) h = 1 by rw [hr0.out, if_pos (by omega)])
    have q0 : ((h.length : Int) != (n : Int)) = true := by simp; omega
    clear hr0 hlen
    go_enter Try.func107, Try.ntmps107
    go_wp2_with fail
    refine (hL.out _ _ _ (w.heap.size + 1 + 1 + 1) (by simp) ((hE.out.below ((by repeat (first | with_reducible exact Below.refl _ _ | with_reducible assumption | with_reducible refine up_drewN ?_ | with_reducible refine up_drew ?_ | (with_reducible refine up_alloc ?_ ?_; rotate_left; (first | omega | (simp <;> omega) | simp)) | (with_reducible refine up_set ?_ ?_; rotate_left; (first | omega | (simp <;> omega) | simp)) | (with_reducible refine Below.trans ?_ (Below.mono (by with_reducible assumption) ?_); rotate_left; (first | omega | (simp <;> omega) | simp)))) : Below w.heap.size w _) hB).mono (by omega)) ((row1 (by simp [go_sem])).mono (by simp))).mono ?_
    rintro e w1 ⟨rfl, hb1⟩
    have k0 : w1.cell? ⟨w.heap.size, 0, none⟩ = some (.int .i64 (n : Int)) := cu_below hb1 (by simp [go_sem]) (by simp <;> omega)
    have k2 : w1.cell? ⟨w.heap.size + 1, 0, none⟩ = some (.slice ah h.length ch) := cu_below hb1 (by simp [go_sem]) (by simp <;> omega)
    have hbw := hide (unalloc (unalloc (unalloc (hb1.mono (by simp <;> omega)) (by simp <;> omega)) (by simp)) (Nat.le_refl _) : Below w.heap.size w w1)
    have hz1 : w.heap.size + 1 < w1.heap.size := cell_lt k2
    have hz0 : w.heap.size < w1.heap.size := by omega
    clear hb1
    go_wp2
    go_ret
    exact ⟨ret_int hr.out.symm, hbw.out⟩
end Go.Proofs.Ytcehdpeeaogpiaa
