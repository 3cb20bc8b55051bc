/-
  A part of the proof of ServePlays: WcA StarX QuietH ROut
-/
import Derived.Test.YtccailcjclbhlaaGreatServePlaysA1
import Derived.Test.YtccailcjclbhlaaGreatServePlaysA4
import Derived.BigQuiet
import Derived.Deep.QuietTactic
import Derived.WalkSpells
import Derived.WalkLawsBesides
import Derived.Deep.RegionHeld3
import Derived.Test.YtccailcjclbhlaaGreatServePlaysA2
import Derived.Test.YtccailcjclbhlaaGreatServePlaysA3
import Derived.Deep.AppendLies
/-! Several texts in one: -/
/-! The edge that costs least between two places: walk.edge, and the reference's Edge. Conditions: costs within bounds. -/
namespace Go.Proofs.YtccailcjclbhlaaGreat
open Go.RowKit
set_option linter.unusedSimpArgs false
set_option linter.unusedVariables false

/-- what the edges from u to v cost at least; far, if there is none -/
def minE (u v : Int) (es : List Ed) : Int := es.foldl (fun a e => if e.u = u ∧ e.v = v then min a e.c else a) 1099511627776
theorem minE_hit {u v : Int} {es : List Ed} {k : Nat} (h : k < es.length) (hu : es[k].u = u) (hv : es[k].v = v) : minE u v (es.take (k + 1)) = min (minE u v (es.take k)) es[k].c := by
  unfold minE
  rw [List.take_succ_eq_append_getElem h, List.foldl_append]
  simp [hu, hv]
theorem minE_miss {u v : Int} {es : List Ed} {k : Nat} (h : k < es.length) (hm : ¬ (es[k].u = u ∧ es[k].v = v)) : minE u v (es.take (k + 1)) = minE u v (es.take k) := by
  unfold minE
  rw [List.take_succ_eq_append_getElem h, List.foldl_append]
  simp only [List.foldl_cons, List.foldl_nil, if_neg hm]
theorem minE_bd {u v : Int} : ∀ {es : List Ed}, (∀ e ∈ es, -10000 ≤ e.c ∧ e.c ≤ 10000) → minE u v es = 1099511627776 ∨ (-10000 ≤ minE u v es ∧ minE u v es ≤ 10000) := by
  have key : ∀ (es : List Ed) (a : Int), (∀ e ∈ es, -10000 ≤ e.c ∧ e.c ≤ 10000) → (a = 1099511627776 ∨ (-10000 ≤ a ∧ a ≤ 10000)) →
      (es.foldl (fun a e => if e.u = u ∧ e.v = v then min a e.c else a) a = 1099511627776 ∨ (-10000 ≤ es.foldl (fun a e => if e.u = u ∧ e.v = v then min a e.c else a) a ∧ es.foldl (fun a e => if e.u = u ∧ e.v = v then min a e.c else a) a ≤ 10000)) := by
    intro es
    induction es with
    | nil => intro a _ h; exact h
    | cons e r ih =>
      intro a hc h
      refine ih _ (fun x hx => hc x (List.mem_cons_of_mem _ hx)) ?_
      have := hc e (List.mem_cons_self ..)
      dsimp only
      split <;> omega
  intro es h
  exact key es _ h (.inl rfl)
def bestV (m : Int) : Int := if m = 1099511627776 then 0 else m
def foundV (m : Int) : Bool := decide (m ≠ 1099511627776)
set_option maxHeartbeats 2000000 in
theorem wedge_any (N : Int) (a : Option Addr) (cap : Nat) (es : List Ed) (x y : Int) (w : World) (B : Nat) (hB : B ≤ w.heap.size) (hE : Row encE 3 w B a es) (hl : es.length ≤ 600) (hc : ∀ e ∈ es, -10000 ≤ e.c ∧ e.c ≤ 10000) (m : Int) (hm : m = minE x y es) :
    Calls Tryz.prog 105 #[.agg #[.int .i64 N, .slice a es.length cap], .int .i64 x, .int .i64 y] w fun e w' => e = .returned (.tuple #[.int .i64 (bestV m), .bool (foundV m)]) ∧ Below w.heap.size w w' := by
  replace hE := hide hE
  replace hc := hide hc
  replace hm := hide hm
  go_enter Tryz.func105, Tryz.ntmps105
  go_wp2
  go_loopw [8, 9, 11, 15] (fun s8 s9 _ i wr => ∃ (k : Nat) (b : Int) (f : Bool), k ≤ es.length ∧ i = .int .i64 k ∧ s8 = .int .i64 b ∧ s9 = .bool f ∧ Hid (b = bestV (minE x y (es.take k)) ∧ f = foundV (minE x y (es.take k))) ∧ Hid (Below w.heap.size w wr)) (fun _ _ _ i _ => es.length - (intOf i).toNat)
  case atStart => exact ⟨0, 0, false, Nat.zero_le _, rfl, rfl, rfl, ⟨rfl, rfl⟩, hide bel⟩
  case round =>
    obtain ⟨k, b, f, hk, rfl, rfl, rfl, hbf, hb⟩ := hrel
    by_cases hlt : k < es.length
    · obtain ⟨bb, o, rfl, hbB, e0, e1, e2⟩ := hE.out.ed k hlt
      rw [← hb.out.cell (by simp; omega)] at e0 e1 e2
      have hcc := hc.out es[k] (List.getElem_mem hlt)
      have hbd := minE_bd (u := x) (v := y) (es := es.take k) (fun e he => hc.out e (List.mem_of_mem_take he))
      have hbs := hb.out.size
      have hbl : bb < wr.heap.size := by omega
      have hbw := hb.out
      obtain ⟨M, hM⟩ : ∃ M, M = minE x y (es.take k) := ⟨_, rfl⟩
      rw [← hM] at hbd hbf
      by_cases hmt : es[k].u = x ∧ es[k].v = y
      · have hnx := minE_hit hlt hmt.1 hmt.2
        rw [← hM] at hnx
        have q1 : (es[k].u == x) = true := by simpa using hmt.1
        have q2 : (es[k].v == y) = true := by simpa using hmt.2
        obtain ⟨c, hce⟩ : ∃ c, c = es[k].c := ⟨_, rfl⟩
        rw [← hce] at e2 hcc hnx
        replace hce := hide hce
        replace hM := hide hM
        replace hmt := hide hmt
        by_cases hF : M = 1099511627776
        · have hb0 : b = 0 := by rw [hbf.out.1, hF]; rfl
          have hf0 : f = false := by rw [hbf.out.2, hF]; rfl
          subst hb0 hf0
          have hn2 := hide (show minE x y (es.take (k + 1)) = c by rw [hnx, hF]; omega)
          clear hnx hbf hF hbd
          go_wp2
          go_roundw
          case rel =>
            refine ⟨k + 1, c, true, by omega, by go_num, rfl, rfl, ?_, hide bel⟩
            rw [hn2.out]
            exact hide ⟨by unfold bestV; rw [if_neg (by omega)], by unfold foundV; simp; omega⟩
          case measure => simp [intOf]; omega
        · have hb0 : b = M := by rw [hbf.out.1]; unfold bestV; rw [if_neg hF]
          have hf0 : f = true := by rw [hbf.out.2]; unfold foundV; simpa using hF
          subst hb0 hf0
          have hbd2 : -10000 ≤ b ∧ b ≤ 10000 := by omega
          clear hbf hbd
          replace hF := hide hF
          by_cases hcb : c < b
          · have hn2 := hide (show minE x y (es.take (k + 1)) = c by rw [hnx]; omega)
            clear hnx
            go_wp2
            go_roundw
            case rel =>
              refine ⟨k + 1, c, true, by omega, by go_num, rfl, rfl, ?_, hide bel⟩
              rw [hn2.out]
              exact hide ⟨by unfold bestV; rw [if_neg (by omega)], by unfold foundV; simp; omega⟩
            case measure => simp [intOf]; omega
          · have hn2 := hide (show minE x y (es.take (k + 1)) = b by rw [hnx]; omega)
            clear hnx
            go_wp2
            go_roundw
            case rel =>
              refine ⟨k + 1, b, true, by omega, by go_num, rfl, rfl, ?_, hide bel⟩
              rw [hn2.out]
              exact hide ⟨by unfold bestV; rw [if_neg (by omega)], by unfold foundV; simp; omega⟩
            case measure => simp [intOf]; omega
      · have hnx := hide (minE_miss hlt hmt)
        have hcase : (es[k].u == x) = false ∨ ((es[k].u == x) = true ∧ (es[k].v == y) = false) := by
          by_cases h1 : es[k].u = x
          · right
            exact ⟨by simpa using h1, by simpa using (fun h => hmt ⟨h1, h⟩)⟩
          · left; simpa using h1
        replace hM := hide hM
        clear hmt
        rcases hcase with q1 | ⟨q1, q2⟩
        all_goals
          go_wp2
          go_roundw
          case rel =>
            refine ⟨k + 1, b, f, by omega, by go_num, rfl, rfl, ?_, hide bel⟩
            rw [hnx.out, ← hM.out]
            exact hbf
          case measure => simp [intOf]; omega
    · obtain rfl : k = es.length := by omega
      have hfin := hbf.out
      rw [List.take_length, ← hm.out] at hfin
      replace hfin := hide hfin
      go_wp2
      go_ret2
      refine ⟨?_, hb.out⟩
      rw [← hfin.out.1, ← hfin.out.2]
      rfl
set_option maxHeartbeats 2000000 in
theorem redge_any (N : Int) (a : Option Addr) (cap : Nat) (es : List Ed) (x y : Int) (w : World) (B : Nat) (hB : B ≤ w.heap.size) (hE : Row encE 3 w B a es) (hl : es.length ≤ 600) (m : Int) (hm : m = minE x y es) :
    Calls Tryz.prog 102 #[.agg #[.int .i64 N, .slice a es.length cap], .int .i64 x, .int .i64 y] w fun e w' => e = .returned (.int .i64 m) ∧ Below w.heap.size w w' := by
  replace hE := hide hE
  replace hm := hide hm
  go_enter Tryz.func102, Tryz.ntmps102
  go_wp2
  go_loopw [7, 9, 13] (fun s7 _ i wr => ∃ (k : Nat) (b : Int), k ≤ es.length ∧ i = .int .i64 k ∧ s7 = .int .i64 b ∧ Hid (b = minE x y (es.take k)) ∧ Hid (Below w.heap.size w wr)) (fun _ _ i _ => es.length - (intOf i).toNat)
  case atStart => exact ⟨0, _, Nat.zero_le _, rfl, rfl, rfl, hide bel⟩
  case round =>
    obtain ⟨k, b, hk, rfl, rfl, hbf, hb⟩ := hrel
    by_cases hlt : k < es.length
    · obtain ⟨bb, o, rfl, hbB, e0, e1, e2⟩ := hE.out.ed k hlt
      rw [← hb.out.cell (by simp; omega)] at e0 e1 e2
      have hbs := hb.out.size
      have hbl : bb < wr.heap.size := by omega
      have hbw := hb.out
      by_cases hmt : es[k].u = x ∧ es[k].v = y
      · have hnx := minE_hit hlt hmt.1 hmt.2
        rw [← hbf.out] at hnx
        have q1 : (es[k].u == x) = true := by simpa using hmt.1
        have q2 : (es[k].v == y) = true := by simpa using hmt.2
        obtain ⟨c, hce⟩ : ∃ c, c = es[k].c := ⟨_, rfl⟩
        rw [← hce] at e2 hnx
        replace hce := hide hce
        replace hmt := hide hmt
        by_cases hcb : c < b
        · have hn2 := hide (show minE x y (es.take (k + 1)) = c by rw [hnx]; omega)
          clear hnx
          go_wp2
          go_roundw
          case rel =>
            exact ⟨k + 1, c, by omega, by go_num, rfl, hn2.out.symm, hide bel⟩
          case measure => simp [intOf]; omega
        · have hn2 := hide (show minE x y (es.take (k + 1)) = b by rw [hnx]; omega)
          clear hnx
          go_wp2
          go_roundw
          case rel =>
            exact ⟨k + 1, b, by omega, by go_num, rfl, hn2.out.symm, hide bel⟩
          case measure => simp [intOf]; omega
      · have hnx := hide (minE_miss hlt hmt)
        have hcase : (es[k].u == x) = false ∨ ((es[k].u == x) = true ∧ (es[k].v == y) = false) := by
          by_cases h1 : es[k].u = x
          · right
            exact ⟨by simpa using h1, by simpa using (fun h => hmt ⟨h1, h⟩)⟩
          · left; simpa using h1
        clear hmt
        rcases hcase with q1 | ⟨q1, q2⟩
        all_goals
          go_wp2
          go_roundw
          case rel =>
            refine ⟨k + 1, b, by omega, by go_num, rfl, ?_, hide bel⟩
            rw [hnx.out]
            exact hbf
          case measure => simp [intOf]; omega
    · obtain rfl : k = es.length := by omega
      have hfin := hbf.out
      rw [List.take_length, ← hm.out] at hfin
      subst hfin
      go_wp2
      go_ret
      exact ⟨rfl, hb.out⟩
end Go.Proofs.YtccailcjclbhlaaGreat

/-! slices.Min and slices.Max of numbers. Condition: the slice is not empty. -/
namespace Go.Proofs.YtccailcjclbhlaaGreat
open Go.RowKit
set_option linter.unusedSimpArgs false
set_option linter.unusedVariables false

def minL (xs : List Int) : Int := xs.tail.foldl min (xs.headD 0)
def maxL (xs : List Int) : Int := xs.tail.foldl max (xs.headD 0)
theorem foldmin_le : ∀ (xs : List Int) (a t : Int), (t ≤ xs.foldl min a ↔ t ≤ a ∧ ∀ x ∈ xs, t ≤ x)
  | [], a, t => by simp
  | x :: r, a, t => by
    show t ≤ r.foldl min (min a x) ↔ _
    rw [foldmin_le r]
    constructor
    · rintro ⟨h1, h2⟩
      refine ⟨by omega, fun y hy => ?_⟩
      rcases List.mem_cons.1 hy with rfl | hy
      · omega
      · exact h2 y hy
    · rintro ⟨h1, h2⟩
      have := h2 x (List.mem_cons_self ..)
      exact ⟨by omega, fun y hy => h2 y (List.mem_cons_of_mem _ hy)⟩
theorem foldmax_ge : ∀ (xs : List Int) (a t : Int), (xs.foldl max a ≤ t ↔ a ≤ t ∧ ∀ x ∈ xs, x ≤ t)
  | [], a, t => by simp
  | x :: r, a, t => by
    show r.foldl max (max a x) ≤ t ↔ _
    rw [foldmax_ge r]
    constructor
    · rintro ⟨h1, h2⟩
      refine ⟨by omega, fun y hy => ?_⟩
      rcases List.mem_cons.1 hy with rfl | hy
      · omega
      · exact h2 y hy
    · rintro ⟨h1, h2⟩
      have := h2 x (List.mem_cons_self ..)
      exact ⟨by omega, fun y hy => h2 y (List.mem_cons_of_mem _ hy)⟩
theorem minL_le {xs : List Int} (h : 0 < xs.length) (t : Int) : t ≤ minL xs ↔ ∀ x ∈ xs, t ≤ x := by
  match xs, h with
  | a :: r, _ =>
    show t ≤ r.foldl min a ↔ _
    rw [foldmin_le]
    simp
theorem maxL_ge {xs : List Int} (h : 0 < xs.length) (t : Int) : maxL xs ≤ t ↔ ∀ x ∈ xs, x ≤ t := by
  match xs, h with
  | a :: r, _ =>
    show r.foldl max a ≤ t ↔ _
    rw [foldmax_ge]
    simp
theorem minL_take {xs : List Int} {k : Nat} (h0 : 0 < k) (h : k < xs.length) : minL (xs.take (k + 1)) = min (minL (xs.take k)) xs[k] := by
  match xs, k, h0, h with
  | a :: r, k + 1, _, h =>
    have h' : k < r.length := by simpa using h
    show (r.take (k + 1)).foldl min a = min ((r.take k).foldl min a) r[k]
    rw [List.take_succ_eq_append_getElem h', List.foldl_append]
    rfl
theorem maxL_take {xs : List Int} {k : Nat} (h0 : 0 < k) (h : k < xs.length) : maxL (xs.take (k + 1)) = max (maxL (xs.take k)) xs[k] := by
  match xs, k, h0, h with
  | a :: r, k + 1, _, h =>
    have h' : k < r.length := by simpa using h
    show (r.take (k + 1)).foldl max a = max ((r.take k).foldl max a) r[k]
    rw [List.take_succ_eq_append_getElem h', List.foldl_append]
    rfl
theorem minL_one {xs : List Int} (h : 0 < xs.length) : minL (xs.take 1) = xs[0] := by
  match xs, h with
  | a :: r, _ => rfl
theorem maxL_one {xs : List Int} (h : 0 < xs.length) : maxL (xs.take 1) = xs[0] := by
  match xs, h with
  | a :: r, _ => rfl
set_option maxHeartbeats 1000000 in
theorem smin_any (a : Option Addr) (cap : Nat) (xs : List Int) (w : World) (B : Nat) (hE : Row encI 1 w B a xs) (h0 : 0 < xs.length) (hl : xs.length ≤ 9223372036854775807) :
    Calls Tryz.prog 100 #[.slice a xs.length cap] w fun e w' => e = .returned (.int .i64 (minL xs)) ∧ ∃ n, w' = w.drewN n := by
  obtain ⟨b, o, rfl, hbB, c0⟩ := hE.int 0 h0
  have i0 : (0 : Int) < (xs.length : Int) := by omega
  have hone := hide (minL_one h0)
  obtain ⟨x0, hx0⟩ : ∃ x, x = xs[0] := ⟨_, rfl⟩
  rw [← hx0] at c0
  replace hx0 := hide hx0
  have c0' : w.cell? ⟨b, o, none⟩ = some (.int .i64 x0) := by simpa using c0
  replace hE := hide hE
  go_enter Tryz.func100, Tryz.ntmps100
  go_wp2
  clear c0 c0'
  go_loopw [3, 4] (fun s i wr => ∃ (k : Nat) (m : Int), 1 ≤ k ∧ k ≤ xs.length ∧ i = .int .i64 k ∧ s = .int .i64 m ∧ Hid (m = minL (xs.take k)) ∧ Hid (∃ n, wr = w.drewN n)) (fun _ i _ => xs.length - (intOf i).toNat)
  case atStart => exact ⟨1, x0, Nat.le_refl _, by omega, rfl, rfl, by rw [Hid, hone.out, hx0.out], ⟨0, rfl⟩⟩
  case round =>
    obtain ⟨k, m, hk1, hk, rfl, rfl, hm, hw⟩ := hrel
    obtain ⟨d, rfl⟩ := hw.out
    by_cases hlt : k < xs.length
    · obtain ⟨b2, o2, e1, _, c1⟩ := hE.out.int k hlt
      simp only [Option.some.injEq, Addr.mk.injEq] at e1
      obtain ⟨rfl, rfl, _⟩ := e1
      have hn := hide (minL_take (by omega) hlt)
      obtain ⟨y, hy⟩ : ∃ y, y = xs[k] := ⟨_, rfl⟩
      rw [← hy] at c1
      replace hy := hide hy
      have i1 : (0 : Int) ≤ (k : Int) ∧ (k : Int) < (xs.length : Int) := by omega
      rcases Int.lt_trichotomy y m with h | h | h
      all_goals
        go_wp2
        go_roundw
        case rel =>
          first
            | exact ⟨k + 1, y, by omega, by omega, by go_num, rfl, by rw [Hid, hn.out, ← hm.out, ← hy.out]; omega, ⟨d, rfl⟩⟩
            | exact ⟨k + 1, m, by omega, by omega, by go_num, rfl, by rw [Hid, hn.out, ← hm.out, ← hy.out]; omega, ⟨d, rfl⟩⟩
        case measure => simp [intOf]; omega
    · obtain rfl : k = xs.length := by omega
      have hfin := hm.out
      rw [List.take_length] at hfin
      subst hfin
      go_wp2
      go_ret
      exact ⟨rfl, d, rfl⟩
set_option maxHeartbeats 1000000 in
theorem smax_any (a : Option Addr) (cap : Nat) (xs : List Int) (w : World) (B : Nat) (hE : Row encI 1 w B a xs) (h0 : 0 < xs.length) (hl : xs.length ≤ 9223372036854775807) :
    Calls Tryz.prog 101 #[.slice a xs.length cap] w fun e w' => e = .returned (.int .i64 (maxL xs)) ∧ ∃ n, w' = w.drewN n := by
  obtain ⟨b, o, rfl, hbB, c0⟩ := hE.int 0 h0
  have i0 : (0 : Int) < (xs.length : Int) := by omega
  have hone := hide (maxL_one h0)
  obtain ⟨x0, hx0⟩ : ∃ x, x = xs[0] := ⟨_, rfl⟩
  rw [← hx0] at c0
  replace hx0 := hide hx0
  have c0' : w.cell? ⟨b, o, none⟩ = some (.int .i64 x0) := by simpa using c0
  replace hE := hide hE
  go_enter Tryz.func101, Tryz.ntmps101
  go_wp2
  clear c0 c0'
  go_loopw [3, 4] (fun s i wr => ∃ (k : Nat) (m : Int), 1 ≤ k ∧ k ≤ xs.length ∧ i = .int .i64 k ∧ s = .int .i64 m ∧ Hid (m = maxL (xs.take k)) ∧ Hid (∃ n, wr = w.drewN n)) (fun _ i _ => xs.length - (intOf i).toNat)
  case atStart => exact ⟨1, x0, Nat.le_refl _, by omega, rfl, rfl, by rw [Hid, hone.out, hx0.out], ⟨0, rfl⟩⟩
  case round =>
    obtain ⟨k, m, hk1, hk, rfl, rfl, hm, hw⟩ := hrel
    obtain ⟨d, rfl⟩ := hw.out
    by_cases hlt : k < xs.length
    · obtain ⟨b2, o2, e1, _, c1⟩ := hE.out.int k hlt
      simp only [Option.some.injEq, Addr.mk.injEq] at e1
      obtain ⟨rfl, rfl, _⟩ := e1
      have hn := hide (maxL_take (by omega) hlt)
      obtain ⟨y, hy⟩ : ∃ y, y = xs[k] := ⟨_, rfl⟩
      rw [← hy] at c1
      replace hy := hide hy
      have i1 : (0 : Int) ≤ (k : Int) ∧ (k : Int) < (xs.length : Int) := by omega
      rcases Int.lt_trichotomy y m with h | h | h
      all_goals
        go_wp2
        go_roundw
        case rel =>
          first
            | exact ⟨k + 1, y, by omega, by omega, by go_num, rfl, by rw [Hid, hn.out, ← hm.out, ← hy.out]; omega, ⟨d, rfl⟩⟩
            | exact ⟨k + 1, m, by omega, by omega, by go_num, rfl, by rw [Hid, hn.out, ← hm.out, ← hy.out]; omega, ⟨d, rfl⟩⟩
        case measure => simp [intOf]; omega
    · obtain rfl : k = xs.length := by omega
      have hfin := hm.out
      rw [List.take_length] at hfin
      subst hfin
      go_wp2
      go_ret
      exact ⟨rfl, d, rfl⟩
end Go.Proofs.YtccailcjclbhlaaGreat

/-! What walk.Cost returns. Conditions: that the slices read. -/
namespace Go.Proofs.YtccailcjclbhlaaGreat
open Go.RowKit
set_option linter.unusedSimpArgs false
set_option linter.unusedVariables false

/-- the rest of a walk, its cost so far -/
def wcRest (es : List Ed) : List Int → Int → Int × Int
  | u :: v :: r, s => if minE u v es = 1099511627776 then (0, 5) else wcRest es (v :: r) (s + minE u v es)
  | _, s => (s, 0)
theorem wcRest_go {es : List Ed} {p : List Int} {k : Nat} (h : k + 1 < p.length) (s : Int) (hm : minE p[k] p[k + 1] es ≠ 1099511627776) : wcRest es (p.drop k) s = wcRest es (p.drop (k + 1)) (s + minE p[k] p[k + 1] es) := by
  rw [List.drop_eq_getElem_cons (by omega : k < p.length), List.drop_eq_getElem_cons h, wcRest, if_neg hm]
theorem wcRest_no {es : List Ed} {p : List Int} {k : Nat} (h : k + 1 < p.length) (s : Int) (hm : minE p[k] p[k + 1] es = 1099511627776) : wcRest es (p.drop k) s = (0, 5) := by
  rw [List.drop_eq_getElem_cons (by omega : k < p.length), List.drop_eq_getElem_cons h, wcRest, if_pos hm]
theorem wcRest_end {es : List Ed} {p : List Int} {k : Nat} (h : p.length ≤ k + 1) (s : Int) : wcRest es (p.drop k) s = (s, 0) := by
  have : (p.drop k).length ≤ 1 := by simp; omega
  match p.drop k, this with
  | [], _ => rfl
  | [x], _ => rfl
def badAt (N : Int) (x : Int) : Bool := decide (x < 0 ∨ x ≥ N)
def wcost (N : Int) (es : List Ed) (p : List Int) : Int × Int :=
  if netErr N es ≠ 0 then (0, netErr N es) else if p.length = 0 then (0, 1) else if p.length > 100 then (0, 2) else if p.any (badAt N) then (0, 1) else wcRest es p 0
theorem anyI_hit {l : List Int} {q : Int → Bool} {k : Nat} (h : k < l.length) (hq : q l[k] = true) : l.any q = true := List.any_eq_true.2 ⟨_, List.getElem_mem h, hq⟩
theorem anyI_none {l : List Int} {q : Int → Bool} (h : ∀ (k : Nat) (h : k < l.length), q l[k] = false) : l.any q = false := by
  rw [List.any_eq_false]
  intro x hx
  obtain ⟨k, hk, rfl⟩ := List.getElem_of_mem hx
  simp [h k hk]
def PairBack (v : Int × Int) (w : World) (e : Ending) (w' : World) : Prop := e = .returned (.tuple #[.int .i64 v.1, .int .i64 v.2]) ∧ Below w.heap.size w w'
set_option maxRecDepth 100000 in
set_option maxHeartbeats 1000000 in
theorem wcost_bad (N : Int) (a : Option Addr) (cap : Nat) (es : List Ed) (pa : Option Addr) (pc : Nat) (p : List Int) (w : World) (B : Nat) (hB : B ≤ w.heap.size) (hE : Row encE 3 w B a es) (hl : es.length ≤ 9223372036854775807) (hlp : p.length ≤ 9223372036854775807) (h0 : netErr N es ≠ 0 ∨ p.length = 0 ∨ p.length > 100) :
    Calls Tryz.prog 99 #[.agg #[.int .i64 N, .slice a es.length cap], .slice pa p.length pc] w (PairBack (wcost N es p) w) := by
  have hC := hide (fun w B hB hE => check_any N a cap es w B hB hE hl)
  replace hE := hide hE
  by_cases h1 : netErr N es = 0
  · have hC2 := hide (show ∀ w B, _ from fun w B hB hE => by have := hC.out w B hB hE; rwa [h1] at this)
    clear hC
    by_cases h2 : p.length = 0
    · have hr := hide (show wcost N es p = (0, 1) by unfold wcost; rw [if_neg (by simpa using h1), if_pos h2])
      have q1 : ((p.length : Int) == 0) = true := by simp [h2]
      replace h2 := hide h2
      clear h1 h0
      go_enter Tryz.func99, Tryz.ntmps99
      go_wp2_with fail
      refine (hC2.out _ B (by simp <;> omega) (hE.out.below (bel : Below w.heap.size w _) hB)).mono ?_
      rintro e w1 ⟨rfl, hb1⟩
      go_wp2
      go_ret2
      exact ⟨by rw [hr.out]; rfl, bel⟩
    · have h3 : (100 : Int) < (p.length : Int) := by omega
      have hr := hide (show wcost N es p = (0, 2) by unfold wcost; rw [if_neg (by simpa using h1), if_neg h2, if_pos (by omega)])
      have q1 : ((p.length : Int) == 0) = false := by simp [h2]
      replace h2 := hide h2
      clear h1 h0
      go_enter Tryz.func99, Tryz.ntmps99
      go_wp2_with fail
      refine (hC2.out _ B (by simp <;> omega) (hE.out.below (bel : Below w.heap.size w _) hB)).mono ?_
      rintro e w1 ⟨rfl, hb1⟩
      go_wp2
      go_ret2
      exact ⟨by rw [hr.out]; rfl, bel⟩
  · have hr := hide (show wcost N es p = (0, netErr N es) by unfold wcost; rw [if_pos h1])
    have q0 : (netErr N es != 0) = true := by simp [h1]
    clear h1 h0
    go_enter Tryz.func99, Tryz.ntmps99
    go_wp2_with fail
    refine (hC.out _ B (by simp <;> omega) (hE.out.below (bel : Below w.heap.size w _) hB)).mono ?_
    rintro e w1 ⟨rfl, hb1⟩
    go_wp2
    go_ret2
    exact ⟨by rw [hr.out]; rfl, bel⟩
set_option maxRecDepth 100000 in
set_option maxHeartbeats 4000000 in
theorem wcost_ok (n : Nat) (a : Option Addr) (cap : Nat) (es : List Ed) (pa : Option Addr) (pc : Nat) (p : List Int) (w : World) (B : Nat) (hB : B ≤ w.heap.size) (hE : Row encE 3 w B a es) (hP : Row encI 1 w B pa p) (hl : es.length ≤ 9223372036854775807) (h0 : netErr (n : Int) es = 0) (hp0 : 0 < p.length) (hp1 : p.length ≤ 100) :
    Calls Tryz.prog 99 #[.agg #[.int .i64 (n : Int), .slice a es.length cap], .slice pa p.length pc] w (PairBack (wcost (n : Int) es p) w) := by
  obtain ⟨n1, n2, n3, n4⟩ := netErr_ok h0
  have hC := hide (show ∀ w B, _ from fun w B hB hE => by have := check_any (n : Int) a cap es w B hB hE hl; rwa [h0] at this)
  have hcs := hide (show ∀ e ∈ es, -10000 ≤ e.c ∧ e.c ≤ 10000 from fun e he => ⟨(n4 e he).2.2.2.2.1, (n4 e he).2.2.2.2.2⟩)
  have hr0 : wcost (n : Int) es p = if p.any (badAt (n : Int)) then (0, 1) else wcRest es p 0 := by unfold wcost; rw [if_neg (by simpa using h0), if_neg (by omega), if_neg (by omega)]
  have q1 : ((p.length : Int) == 0) = false := by simp only [beq_eq_false_iff_ne, ne_eq]; omega
  replace hr0 := hide hr0
  replace hE := hide hE
  replace hP := hide hP
  clear h0 n4
  go_enter Tryz.func99, Tryz.ntmps99
  go_wp2_with fail
  refine (hC.out _ B (by simp <;> omega) (hE.out.below (bel : Below w.heap.size w _) hB)).mono ?_
  rintro e w1 ⟨rfl, hb1⟩
  obtain ⟨hc1, hf1⟩ := bcell hb1
  have hz1 : w.heap.size < w1.heap.size := by have := hb1.size; simp at this; omega
  have hB1 := hide (show Below w.heap.size w w1 from bel)
  have k0 : w1.cell? ⟨w.heap.size, 0, none⟩ = some (.int .i64 (n : Int)) := by simp [hc1, hz1, go_sem]
  have k1 : w1.cell? ⟨w.heap.size, 1, none⟩ = some (.slice a es.length cap) := by simp [hc1, hz1, go_sem]
  have hP1 := hide (hP.out.below hB1.out hB)
  have hE1 := hide (hE.out.below hB1.out hB)
  clear hb1 hc1 hf1 hC
  go_wp2
  go_loopw [8, 26] (fun _ i wr => ∃ k : Nat, k ≤ p.length ∧ i = .int .i64 k ∧ Hid (∀ (j : Nat) (h : j < k) (h : j < p.length), badAt (n : Int) p[j] = false) ∧ Hid (∃ d, wr = w1.drewN d)) (fun _ i _ => p.length - (intOf i).toNat)
  case atStart => exact ⟨0, Nat.zero_le _, rfl, fun j h => absurd h (Nat.not_lt_zero _), ⟨0, rfl⟩⟩
  case round =>
    obtain ⟨k, hk, rfl, hD, hw⟩ := hrel
    obtain ⟨d, rfl⟩ := hw.out
    by_cases hlt : k < p.length
    · obtain ⟨b, o, rfl, hbB, c0⟩ := hP1.out.int k hlt
      obtain ⟨x, hx⟩ : ∃ x, x = p[k] := ⟨_, rfl⟩
      rw [← hx] at c0
      by_cases hbad : badAt (n : Int) p[k] = true
      · have hr := hide (show wcost (n : Int) es p = (0, 1) by rw [hr0.out, if_pos (anyI_hit hlt hbad)])
        have hcase : x < 0 ∨ (0 ≤ x ∧ (n : Int) ≤ x) := by rw [← hx] at hbad; simp [badAt] at hbad; omega
        replace hx := hide hx
        clear hbad
        rcases hcase with h | ⟨h1, h2⟩
        all_goals
          go_wp2
          go_ret2
          exact ⟨by rw [hr.out]; rfl, up_drewN hB1.out⟩
      · have hok : badAt (n : Int) p[k] = false := by simpa using hbad
        have hrg : 0 ≤ x ∧ x < n := by rw [← hx] at hok; simp [badAt] at hok; omega
        replace hok := hide hok
        replace hx := hide hx
        clear hbad
        go_wp2
        go_roundw
        case rel =>
          refine ⟨k + 1, by omega, by go_num, ?_, ⟨d, rfl⟩⟩
          refine hide fun j h1 h2 => ?_
          by_cases e : j = k
          · subst e; exact hok.out
          · exact hD.out j (by omega) h2
        case measure => simp [intOf]; omega
    · obtain rfl : k = p.length := by omega
      have hr := hide (show wcost (n : Int) es p = wcRest es p 0 by
        rw [hr0.out, anyI_none (fun j h => hD.out j h h)]
        rfl)
      have hin := hide (show ∀ (j : Nat) (h : j < p.length), 0 ≤ p[j] ∧ p[j] < n from fun j h => by have := hD.out j h h; simp [badAt] at this; omega)
      clear hD hr0 hlt
      go_wp2
      go_loopw [9, 10, 11, 12] (fun s9 i _ _ wr => ∃ (j : Nat) (s : Int), j + 1 ≤ p.length ∧ i = .int .i64 ((j : Int) + 1) ∧ s9 = .int .i64 s ∧ -10000 * (j : Int) ≤ s ∧ s ≤ 10000 * (j : Int) ∧ Hid (wcRest es p 0 = wcRest es (p.drop j) s) ∧ Hid (Below w1.heap.size w1 wr)) (fun _ i _ _ _ => p.length - (intOf i).toNat)
      case atStart => exact ⟨0, 0, by omega, rfl, rfl, by omega, by omega, rfl, up_drewN (Below.refl _ _)⟩
      case round =>
        obtain ⟨j, s, hj, rfl, rfl, hs1, hs2, hR, hb⟩ := hrel
        by_cases hjl : j + 1 < p.length
        · have hbs := hb.out.size
          obtain ⟨b, o, rfl, hbB, c0⟩ := hP1.out.int j (by omega)
          obtain ⟨b', o', e1, _, c1⟩ := hP1.out.int (j + 1) hjl
          simp only [Option.some.injEq, Addr.mk.injEq] at e1
          obtain ⟨rfl, rfl, _⟩ := e1
          have hEr := hide (hE1.out.below hb.out (Nat.le_trans hB hB1.out.size))
          have hm1 := wcRest_go (es := es) hjl s
          have hm2 := wcRest_no (es := es) hjl s
          have hmb := minE_bd (u := p[j]) (v := p[j + 1]) hcs.out
          obtain ⟨x, hx⟩ : ∃ x, x = p[j] := ⟨_, rfl⟩
          obtain ⟨y, hy⟩ : ∃ y, y = p[j + 1] := ⟨_, rfl⟩
          rw [← hx, ← hy] at hm1 hm2 hmb
          rw [← hx] at c0
          rw [← hy] at c1
          obtain ⟨M, hM⟩ : ∃ M, M = minE x y es := ⟨_, rfl⟩
          rw [← hM] at hm1 hm2 hmb
          replace hx := hide hx
          replace hy := hide hy
          replace hM := hide hM
          obtain ⟨wu, rfl⟩ : ∃ wu : World, wu = wr := ⟨_, rfl⟩
          have hw1 : IntKind.i64.wrap ((j : Int) + 1 - 1) = (j : Int) := by rw [show (j : Int) + 1 - 1 = (j : Int) by omega]; exact IntWalk.i64_in _ (by omega)
          have hw2 : IntKind.i64.wrap (j : Int) = (j : Int) := IntWalk.i64_in _ (by omega)
          have i1 : (0 : Int) ≤ (j : Int) ∧ (j : Int) < (p.length : Int) := by omega
          have i2 : (0 : Int) ≤ (j : Int) + 1 ∧ (j : Int) + 1 < (p.length : Int) := by omega
          have i3 : ((j : Int) + 1).toNat = j + 1 := by omega
          have i4 : ((j : Int) + 1 - 1).toNat = j := by omega
          have g0 := (hb.out.cell (cell_lt k0)).trans k0
          have g1 := (hb.out.cell (cell_lt k1)).trans k1
          have g2 := (hb.out.cell (cell_lt c0)).trans c0
          have g3 := (hb.out.cell (cell_lt c1)).trans c1
          have key := hide (show ∀ w', Below wu.heap.size wu w' → (Below wu.heap.size wu w' ∧ w'.cell? ⟨w.heap.size, 0, none⟩ = some (.int .i64 (n : Int)) ∧ w'.cell? ⟨w.heap.size, 1, none⟩ = some (.slice a es.length cap) ∧ w'.cell? ⟨b, o + j, none⟩ = some (.int .i64 x) ∧ w'.cell? ⟨b, o + (j + 1), none⟩ = some (.int .i64 y)) from
            fun w' hb => ⟨hb, (hb.cell (cell_lt g0)).trans g0, (hb.cell (cell_lt g1)).trans g1, (hb.cell (cell_lt g2)).trans g2, (hb.cell (cell_lt g3)).trans g3⟩)
          have hB2 := hide (Nat.le_trans (Nat.le_trans hB hB1.out.size) hbs)
          have hWE := hide (show ∀ (v : Int) (f : Bool), v = bestV M → f = foundV M → ∀ w', Below wu.heap.size wu w' → Calls Tryz.prog 105 #[.agg #[.int .i64 (n : Int), .slice a es.length cap], .int .i64 x, .int .i64 y] w' fun e w'' => e = .returned (.tuple #[.int .i64 v, .bool f]) ∧ Below w'.heap.size w' w'' from by
            rintro v f rfl rfl w' hb'
            exact wedge_any n a cap es x y w' B (Nat.le_trans hB2.out hb'.size) (hEr.out.below hb' hB2.out) n3 hcs.out M hM.out)
          clear c0 c1 g0 g1 g2 g3 k0 k1
          by_cases hF : M = 1099511627776
          · have hcall := hide (hWE.out 0 false (by rw [hF]; rfl) (by rw [hF]; rfl))
            have hfin := hide (show wcRest es p 0 = (0, 5) by rw [hR.out]; exact hm2 hF)
            replace hF := hide hF
            clear hm1 hm2 hmb hWE
            go_wp2_with fail
            go_region_held3 (fun w' => Below wu.heap.size wu w' ∧ w'.cell? ⟨w.heap.size, 0, none⟩ = some (.int .i64 (n : Int)) ∧ w'.cell? ⟨w.heap.size, 1, none⟩ = some (.slice a es.length cap) ∧ w'.cell? ⟨b, o + j, none⟩ = some (.int .i64 x) ∧ w'.cell? ⟨b, o + (j + 1), none⟩ = some (.int .i64 y))
              (first | exact key.out _ (below_drew _) | exact key.out _ (by assumption))
              (first | (go_at_call 105; have hb4 := (‹_ ∧ _› : _ ∧ _).1; refine (hcall.out _ hb4).mono ?_; rintro e w4 ⟨rfl, hb5⟩; have hb6 := below_step hb4 hb5))
            all_goals
              go_wp2
              go_ret2
              exact ⟨by rw [hr.out, hfin.out]; rfl, hB1.out.trans ((hb.out.trans (hb6.mono hbs)).mono hB1.out.size)⟩
          · have hcall := hide (hWE.out M true (by unfold bestV; rw [if_neg hF]) (by unfold foundV; simpa using hF))
            have hgo := hide (show wcRest es p 0 = wcRest es (p.drop (j + 1)) (s + M) by rw [hR.out]; exact hm1 hF)
            have hM2 : -10000 ≤ M ∧ M ≤ 10000 := by omega
            replace hF := hide hF
            clear hm1 hm2 hmb hWE
            go_wp2_with fail
            go_region_held3 (fun w' => Below wu.heap.size wu w' ∧ w'.cell? ⟨w.heap.size, 0, none⟩ = some (.int .i64 (n : Int)) ∧ w'.cell? ⟨w.heap.size, 1, none⟩ = some (.slice a es.length cap) ∧ w'.cell? ⟨b, o + j, none⟩ = some (.int .i64 x) ∧ w'.cell? ⟨b, o + (j + 1), none⟩ = some (.int .i64 y))
              (first | exact key.out _ (below_drew _) | exact key.out _ (by assumption))
              (first | (go_at_call 105; have hb4 := (‹_ ∧ _› : _ ∧ _).1; refine (hcall.out _ hb4).mono ?_; rintro e w4 ⟨rfl, hb5⟩; have hb6 := below_step hb4 hb5))
            all_goals
              go_wp2
              go_roundw
              case rel => exact ⟨j + 1, s + M, by omega, by go_num, rfl, by omega, by omega, hgo, hide (hb.out.trans (hb6.mono hbs))⟩
              case measure => simp [intOf]; omega
        · have hfin := hide (show wcRest es p 0 = (s, 0) by rw [hR.out]; exact wcRest_end (by omega) s)
          go_wp2
          go_ret2
          exact ⟨by rw [hr.out, hfin.out]; rfl, hB1.out.trans (hb.out.mono hB1.out.size)⟩
end Go.Proofs.YtccailcjclbhlaaGreat

/-! What the reference's WalkCost returns. Conditions: that the slices read. -/
namespace Go.Proofs.YtccailcjclbhlaaGreat
open Go.RowKit
set_option linter.unusedSimpArgs false
set_option linter.unusedVariables false
set_option maxRecDepth 100000 in
set_option maxHeartbeats 1000000 in
theorem rwcost_bad (N : Int) (a : Option Addr) (cap : Nat) (es : List Ed) (pa : Option Addr) (pc : Nat) (p : List Int) (w : World) (B : Nat) (hB : B ≤ w.heap.size) (hE : Row encE 3 w B a es) (hl : es.length ≤ 9223372036854775807) (hlp : p.length ≤ 9223372036854775807) (h0 : netErr N es ≠ 0 ∨ p.length = 0 ∨ p.length > 100) :
    Calls Tryz.prog 94 #[.agg #[.int .i64 N, .slice a es.length cap], .slice pa p.length pc] w (PairBack (wcost N es p) w) := by
  have hC := hide (fun w B hB hE => rnet_any N a cap es w B hB hE hl)
  replace hE := hide hE
  by_cases h1 : netErr N es = 0
  · have hC2 := hide (show ∀ w B, _ from fun w B hB hE => by have := hC.out w B hB hE; rwa [h1] at this)
    clear hC
    by_cases h2 : p.length = 0
    · have hr := hide (show wcost N es p = (0, 1) by unfold wcost; rw [if_neg (by simpa using h1), if_pos h2])
      have q1 : ((p.length : Int) == 0) = true := by simp [h2]
      replace h2 := hide h2
      clear h1 h0
      go_enter Tryz.func94, Tryz.ntmps94
      go_wp2_with fail
      refine (hC2.out _ B (by simp <;> omega) (hE.out.below (bel : Below w.heap.size w _) hB)).mono ?_
      rintro e w1 ⟨rfl, hb1⟩
      go_wp2
      go_ret2
      exact ⟨by rw [hr.out]; rfl, bel⟩
    · have h3 : (100 : Int) < (p.length : Int) := by omega
      have hr := hide (show wcost N es p = (0, 2) by unfold wcost; rw [if_neg (by simpa using h1), if_neg h2, if_pos (by omega)])
      have q1 : ((p.length : Int) == 0) = false := by simp [h2]
      replace h2 := hide h2
      clear h1 h0
      go_enter Tryz.func94, Tryz.ntmps94
      go_wp2_with fail
      refine (hC2.out _ B (by simp <;> omega) (hE.out.below (bel : Below w.heap.size w _) hB)).mono ?_
      rintro e w1 ⟨rfl, hb1⟩
      go_wp2
      go_ret2
      exact ⟨by rw [hr.out]; rfl, bel⟩
  · have hr := hide (show wcost N es p = (0, netErr N es) by unfold wcost; rw [if_pos h1])
    have q0 : (netErr N es != 0) = true := by simp [h1]
    clear h1 h0
    go_enter Tryz.func94, Tryz.ntmps94
    go_wp2_with fail
    refine (hC.out _ B (by simp <;> omega) (hE.out.below (bel : Below w.heap.size w _) hB)).mono ?_
    rintro e w1 ⟨rfl, hb1⟩
    go_wp2
    go_ret2
    exact ⟨by rw [hr.out]; rfl, bel⟩
theorem any_bad {n : Nat} {p : List Int} (hp : 0 < p.length) : p.any (badAt (n : Int)) = true ↔ minL p < 0 ∨ (n : Int) ≤ maxL p := by
  have h1 := minL_le hp 0
  have h2 := maxL_ge hp ((n : Int) - 1)
  constructor
  · intro h
    obtain ⟨x, hx, hb⟩ := List.any_eq_true.1 h
    simp [badAt] at hb
    rcases hb with hb | hb
    · left
      rcases Int.lt_or_le (minL p) 0 with hh | hh
      · exact hh
      · have := h1.1 hh x hx; omega
    · right
      rcases Int.lt_or_le ((n : Int) - 1) (maxL p) with hh | hh
      · omega
      · have := h2.1 hh x hx; omega
  · intro h
    by_cases ha : p.any (badAt (n : Int)) = true
    · exact ha
    · exfalso
      rw [Bool.not_eq_true, List.any_eq_false] at ha
      have k1 := h1.2 (fun x hx => by have := ha x hx; simp [badAt] at this; omega)
      have k2 := h2.2 (fun x hx => by have := ha x hx; simp [badAt] at this; omega)
      omega
set_option maxRecDepth 100000 in
set_option maxHeartbeats 4000000 in
theorem rwcost_ok (n : Nat) (a : Option Addr) (cap : Nat) (es : List Ed) (pa : Option Addr) (pc : Nat) (p : List Int) (w : World) (B : Nat) (hB : B ≤ w.heap.size) (hE : Row encE 3 w B a es) (hP : Row encI 1 w B pa p) (hl : es.length ≤ 9223372036854775807) (h0 : netErr (n : Int) es = 0) (hp0 : 0 < p.length) (hp1 : p.length ≤ 100) :
    Calls Tryz.prog 94 #[.agg #[.int .i64 (n : Int), .slice a es.length cap], .slice pa p.length pc] w (PairBack (wcost (n : Int) es p) w) := by
  obtain ⟨n1, n2, n3, n4⟩ := netErr_ok h0
  have hC := hide (show ∀ w B, _ from fun w B hB hE => by have := rnet_any (n : Int) a cap es w B hB hE hl; rwa [h0] at this)
  have hcs := hide (show ∀ e ∈ es, -10000 ≤ e.c ∧ e.c ≤ 10000 from fun e he => ⟨(n4 e he).2.2.2.2.1, (n4 e he).2.2.2.2.2⟩)
  have hr0 : wcost (n : Int) es p = if p.any (badAt (n : Int)) then (0, 1) else wcRest es p 0 := by unfold wcost; rw [if_neg (by simpa using h0), if_neg (by omega), if_neg (by omega)]
  have hab := hide (any_bad (n := n) hp0)
  have q1 : ((p.length : Int) == 0) = false := by simp only [beq_eq_false_iff_ne, ne_eq]; omega
  obtain ⟨mn, hmn⟩ : ∃ x, x = minL p := ⟨_, rfl⟩
  obtain ⟨mx, hmx⟩ : ∃ x, x = maxL p := ⟨_, rfl⟩
  have hMin := hide (show ∀ w B, Row encI 1 w B pa p → Calls Tryz.prog 100 #[.slice pa p.length pc] w fun e w' => e = .returned (.int .i64 mn) ∧ ∃ n, w' = w.drewN n from fun w B h => by rw [hmn]; exact smin_any pa pc p w B h hp0 (by omega))
  have hMax := hide (show ∀ w B, Row encI 1 w B pa p → Calls Tryz.prog 101 #[.slice pa p.length pc] w fun e w' => e = .returned (.int .i64 mx) ∧ ∃ n, w' = w.drewN n from fun w B h => by rw [hmx]; exact smax_any pa pc p w B h hp0 (by omega))
  have hcase : (p.any (badAt (n : Int)) = true ∧ (mn < 0 ∨ (0 ≤ mn ∧ (n : Int) ≤ mx))) ∨ (p.any (badAt (n : Int)) = false ∧ 0 ≤ mn ∧ mx < n) := by
    have h5 := hab.out
    rw [← hmn, ← hmx] at h5
    by_cases h6 : p.any (badAt (n : Int)) = true
    · left; exact ⟨h6, by have := h5.1 h6; omega⟩
    · right
      have h7 : ¬ (mn < 0 ∨ (n : Int) ≤ mx) := fun h => h6 (h5.2 h)
      exact ⟨by simpa using h6, by omega, by omega⟩
  replace hr0 := hide hr0
  replace hE := hide hE
  replace hP := hide hP
  replace hmn := hide hmn
  replace hmx := hide hmx
  clear h0 n4
  go_enter Tryz.func94, Tryz.ntmps94
  go_wp2_with fail
  refine (hC.out _ B (by simp <;> omega) (hE.out.below (bel : Below w.heap.size w _) hB)).mono ?_
  rintro e w1 ⟨rfl, hb1⟩
  obtain ⟨hc1, hf1⟩ := bcell hb1
  have hz1 : w.heap.size < w1.heap.size := by have := hb1.size; simp at this; omega
  have hB1 := hide (show Below w.heap.size w w1 from bel)
  have k0 : w1.cell? ⟨w.heap.size, 0, none⟩ = some (.int .i64 (n : Int)) := by simp [hc1, hz1, go_sem]
  have k1 : w1.cell? ⟨w.heap.size, 1, none⟩ = some (.slice a es.length cap) := by simp [hc1, hz1, go_sem]
  have hP1 := hide (hP.out.below hB1.out hB)
  have hE1 := hide (hE.out.below hB1.out hB)
  clear hb1 hc1 hf1 hC
  rcases hcase with ⟨hany, hc⟩ | ⟨hany, hc1, hc2⟩
  · have hr := hide (show wcost (n : Int) es p = (0, 1) by rw [hr0.out, if_pos hany])
    clear hany
    rcases hc with h | ⟨h1, h2⟩
    · have q2 : decide (mn < 0) = true := by simpa using h
      go_wp2_with fail
      go_quiet ((first | (go_at_call 100; exact Calls.quiet_of (hMin.out _ B (show Row encI 1 _ _ _ _ from hP1.out))) | (go_at_call 101; exact Calls.quiet_of (hMax.out _ B (show Row encI 1 _ _ _ _ from hP1.out)))))
      go_wp2
      go_ret2
      exact ⟨by rw [hr.out]; rfl, up_drewN hB1.out⟩
    · have q2 : decide (mn < 0) = false := by simpa using h1
      go_wp2_with fail
      go_quiet ((first | (go_at_call 100; exact Calls.quiet_of (hMin.out _ B (show Row encI 1 _ _ _ _ from hP1.out))) | (go_at_call 101; exact Calls.quiet_of (hMax.out _ B (show Row encI 1 _ _ _ _ from hP1.out)))))
      go_wp2
      go_ret2
      exact ⟨by rw [hr.out]; rfl, up_drewN hB1.out⟩
  · have hr := hide (show wcost (n : Int) es p = wcRest es p 0 by rw [hr0.out, hany]; rfl)
    have q2 : decide (mn < 0) = false := by simpa using hc1
    clear hany
    go_wp2_with fail
    go_quiet ((first | (go_at_call 100; exact Calls.quiet_of (hMin.out _ B (show Row encI 1 _ _ _ _ from hP1.out))) | (go_at_call 101; exact Calls.quiet_of (hMax.out _ B (show Row encI 1 _ _ _ _ from hP1.out)))))
    clear q2 hMin hMax hab
    go_wp2
    go_loopw [7, 8, 9, 37] (fun s7 _ _ i wr => ∃ (j : Nat) (s : Int), j + 1 ≤ p.length ∧ i = .int .i64 (j : Int) ∧ s7 = .int .i64 s ∧ -10000 * (j : Int) ≤ s ∧ s ≤ 10000 * (j : Int) ∧ Hid (wcRest es p 0 = wcRest es (p.drop j) s) ∧ Hid (Below w1.heap.size w1 wr)) (fun _ _ _ i _ => p.length - (intOf i).toNat)
    case atStart => exact ⟨0, 0, by omega, rfl, rfl, by omega, by omega, rfl, up_drewN (Below.refl _ _)⟩
    case round =>
      obtain ⟨j, s, hj, rfl, rfl, hs1, hs2, hR, hb⟩ := hrel
      by_cases hjl : j + 1 < p.length
      · have hbs := hb.out.size
        obtain ⟨b, o, rfl, hbB, c0⟩ := hP1.out.int j (by omega)
        obtain ⟨b', o', e1, _, c1⟩ := hP1.out.int (j + 1) hjl
        simp only [Option.some.injEq, Addr.mk.injEq] at e1
        obtain ⟨rfl, rfl, _⟩ := e1
        have hEr := hide (hE1.out.below hb.out (Nat.le_trans hB hB1.out.size))
        have hm1 := wcRest_go (es := es) hjl s
        have hm2 := wcRest_no (es := es) hjl s
        have hmb := minE_bd (u := p[j]) (v := p[j + 1]) hcs.out
        obtain ⟨x, hx⟩ : ∃ x, x = p[j] := ⟨_, rfl⟩
        obtain ⟨y, hy⟩ : ∃ y, y = p[j + 1] := ⟨_, rfl⟩
        rw [← hx, ← hy] at hm1 hm2 hmb
        rw [← hx] at c0
        rw [← hy] at c1
        obtain ⟨M, hM⟩ : ∃ M, M = minE x y es := ⟨_, rfl⟩
        rw [← hM] at hm1 hm2 hmb
        replace hx := hide hx
        replace hy := hide hy
        replace hM := hide hM
        obtain ⟨wu, rfl⟩ : ∃ wu : World, wu = wr := ⟨_, rfl⟩
        have hw1 : IntKind.i64.wrap ((j : Int) + 1) = (j : Int) + 1 := IntWalk.i64_in _ (by omega)
        have i1 : (0 : Int) ≤ (j : Int) ∧ (j : Int) < (p.length : Int) := by omega
        have i2 : (0 : Int) ≤ (j : Int) + 1 ∧ (j : Int) + 1 < (p.length : Int) := by omega
        have i3 : ((j : Int) + 1).toNat = j + 1 := by omega
        have g0 := (hb.out.cell (cell_lt k0)).trans k0
        have g1 := (hb.out.cell (cell_lt k1)).trans k1
        have g2 := (hb.out.cell (cell_lt c0)).trans c0
        have g3 := (hb.out.cell (cell_lt c1)).trans c1
        have key := hide (show ∀ w', Below wu.heap.size wu w' → (Below wu.heap.size wu w' ∧ w'.cell? ⟨w.heap.size, 0, none⟩ = some (.int .i64 (n : Int)) ∧ w'.cell? ⟨w.heap.size, 1, none⟩ = some (.slice a es.length cap) ∧ w'.cell? ⟨b, o + j, none⟩ = some (.int .i64 x) ∧ w'.cell? ⟨b, o + (j + 1), none⟩ = some (.int .i64 y)) from
          fun w' hb => ⟨hb, (hb.cell (cell_lt g0)).trans g0, (hb.cell (cell_lt g1)).trans g1, (hb.cell (cell_lt g2)).trans g2, (hb.cell (cell_lt g3)).trans g3⟩)
        have hB2 := hide (Nat.le_trans (Nat.le_trans hB hB1.out.size) hbs)
        have hWE := hide (show ∀ w', Below wu.heap.size wu w' → Calls Tryz.prog 102 #[.agg #[.int .i64 (n : Int), .slice a es.length cap], .int .i64 x, .int .i64 y] w' fun e w'' => e = .returned (.int .i64 M) ∧ Below w'.heap.size w' w'' from by
          intro w' hb'
          exact redge_any n a cap es x y w' B (Nat.le_trans hB2.out hb'.size) (hEr.out.below hb' hB2.out) n3 M hM.out)
        clear c0 c1 g0 g1 g2 g3 k0 k1
        by_cases hF : M = 1099511627776
        · have hfin := hide (show wcRest es p 0 = (0, 5) by rw [hR.out]; exact hm2 hF)
          have q9 : (M == 1099511627776) = true := by simpa using hF
          replace hF := hide hF
          clear hm1 hm2 hmb
          go_wp2_with fail
          go_region_held3 (fun w' => Below wu.heap.size wu w' ∧ w'.cell? ⟨w.heap.size, 0, none⟩ = some (.int .i64 (n : Int)) ∧ w'.cell? ⟨w.heap.size, 1, none⟩ = some (.slice a es.length cap) ∧ w'.cell? ⟨b, o + j, none⟩ = some (.int .i64 x) ∧ w'.cell? ⟨b, o + (j + 1), none⟩ = some (.int .i64 y))
            (first | exact key.out _ (below_drew _) | exact key.out _ (by assumption))
            (first | (go_at_call 102; have hb4 := (‹_ ∧ _› : _ ∧ _).1; refine (hWE.out _ hb4).mono ?_; rintro e w4 ⟨rfl, hb5⟩; have hb6 := below_step hb4 hb5))
          all_goals
            go_wp2
            go_ret2
            exact ⟨by rw [hr.out, hfin.out]; rfl, hB1.out.trans ((hb.out.trans (hb6.mono hbs)).mono hB1.out.size)⟩
        · have hgo := hide (show wcRest es p 0 = wcRest es (p.drop (j + 1)) (s + M) by rw [hR.out]; exact hm1 hF)
          have hM2 : -10000 ≤ M ∧ M ≤ 10000 := by omega
          have q9 : (M == 1099511627776) = false := by simpa using hF
          replace hF := hide hF
          clear hm1 hm2 hmb
          go_wp2_with fail
          go_region_held3 (fun w' => Below wu.heap.size wu w' ∧ w'.cell? ⟨w.heap.size, 0, none⟩ = some (.int .i64 (n : Int)) ∧ w'.cell? ⟨w.heap.size, 1, none⟩ = some (.slice a es.length cap) ∧ w'.cell? ⟨b, o + j, none⟩ = some (.int .i64 x) ∧ w'.cell? ⟨b, o + (j + 1), none⟩ = some (.int .i64 y))
            (first | exact key.out _ (below_drew _) | exact key.out _ (by assumption))
            (first | (go_at_call 102; have hb4 := (‹_ ∧ _› : _ ∧ _).1; refine (hWE.out _ hb4).mono ?_; rintro e w4 ⟨rfl, hb5⟩; have hb6 := below_step hb4 hb5))
          all_goals
            go_wp2
            go_roundw
            case rel => exact ⟨j + 1, s + M, by omega, by go_num, rfl, by omega, by omega, hgo, hide (hb.out.trans (hb6.mono hbs))⟩
            case measure => simp [intOf]; omega
      · have hfin := hide (show wcRest es p 0 = (s, 0) by rw [hR.out]; exact wcRest_end (by omega) s)
        go_wp2
        go_ret2
        exact ⟨by rw [hr.out, hfin.out]; rfl, hB1.out.trans (hb.out.mono hB1.out.size)⟩
end Go.Proofs.YtccailcjclbhlaaGreat

/-! The walk of felllaw.WalkCosts: it returns true. Conditions: the arguments read as data. -/
namespace Go.Proofs.YtccailcjclbhlaaGreat
open Go.RowKit
set_option linter.unusedSimpArgs false
set_option linter.unusedVariables false
/-- both, whatever they are given -/
theorem wcost_any (N : Int) (a : Option Addr) (cap : Nat) (es : List Ed) (pa : Option Addr) (pc : Nat) (p : List Int) (w : World) (B : Nat) (hB : B ≤ w.heap.size) (hE : Row encE 3 w B a es) (hP : Row encI 1 w B pa p) (hl : es.length ≤ 9223372036854775807) (hlp : p.length ≤ 9223372036854775807) :
    Calls Tryz.prog 99 #[.agg #[.int .i64 N, .slice a es.length cap], .slice pa p.length pc] w (PairBack (wcost N es p) w) := by
  by_cases h : netErr N es ≠ 0 ∨ p.length = 0 ∨ p.length > 100
  · exact wcost_bad N a cap es pa pc p w B hB hE hl hlp h
  · have h0 : netErr N es = 0 := by
      by_cases h1 : netErr N es = 0
      · exact h1
      · exact absurd (.inl h1) h
    obtain ⟨n, rfl⟩ := Int.eq_ofNat_of_zero_le (show 0 ≤ N by have := netErr_ok h0; omega)
    exact wcost_ok n a cap es pa pc p w B hB hE hP hl h0 (by omega) (by omega)
theorem rwcost_any (N : Int) (a : Option Addr) (cap : Nat) (es : List Ed) (pa : Option Addr) (pc : Nat) (p : List Int) (w : World) (B : Nat) (hB : B ≤ w.heap.size) (hE : Row encE 3 w B a es) (hP : Row encI 1 w B pa p) (hl : es.length ≤ 9223372036854775807) (hlp : p.length ≤ 9223372036854775807) :
    Calls Tryz.prog 94 #[.agg #[.int .i64 N, .slice a es.length cap], .slice pa p.length pc] w (PairBack (wcost N es p) w) := by
  by_cases h : netErr N es ≠ 0 ∨ p.length = 0 ∨ p.length > 100
  · exact rwcost_bad N a cap es pa pc p w B hB hE hl hlp h
  · have h0 : netErr N es = 0 := by
      by_cases h1 : netErr N es = 0
      · exact h1
      · exact absurd (.inl h1) h
    obtain ⟨n, rfl⟩ := Int.eq_ofNat_of_zero_le (show 0 ≤ N by have := netErr_ok h0; omega)
    exact rwcost_ok n a cap es pa pc p w B hB hE hP hl h0 (by omega) (by omega)
end Go.Proofs.YtccailcjclbhlaaGreat
/-! What holds while a search runs: its object, the three rows, the heap. No condition. -/
namespace Go.Proofs.YtccailcjclbhlaaGreat
open Go.RowKit
set_option linter.unusedSimpArgs false
set_option linter.unusedVariables false
/-- the blocks that a search writes -/
def SXb (gc gp gd gh : Nat) (j : Nat) : Prop := j = gc ∨ j = gp ∨ j = gd ∨ j = gh
/-- which places were looked from -/
def ordB (n : Nat) (ord : List Nat) : List Bool := (List.range n).map fun v => decide (v ∈ ord)
/-- sb: the object; gc, gp, gd: costs, where from, done; gh: the heap; wS: the world right behind their making -/
structure SX (base n sb gc gp gd gh : Nat) (ov hv kf v : Value) (k : Nat) (f : Nat → Ed) (s : SR) (wS wr : World) : Prop where
  c2 : wr.cell? ⟨sb, 2, none⟩ = some ov
  c3 : wr.cell? ⟨sb, 3, none⟩ = some hv
  c4 : wr.cell? ⟨sb, 4, none⟩ = some (.slice (some ⟨gc, 0, none⟩) n n)
  c5 : wr.cell? ⟨sb, 5, none⟩ = some (.slice (some ⟨gp, 0, none⟩) n n)
  c6 : wr.cell? ⟨sb, 6, none⟩ = some (.slice (some ⟨gd, 0, none⟩) n n)
  c7 : wr.cell? ⟨sb, 7, none⟩ = some (.pointer (some ⟨gh, 0, none⟩))
  c8 : wr.cell? ⟨sb, 8, none⟩ = some kf
  cost : Own encI 1 3 wr base (.slice (some ⟨gc, 0, none⟩) n n) (LI n s.cost)
  pred : Own encI 1 3 wr base (.slice (some ⟨gp, 0, none⟩) n n) (LI n s.pred)
  done : Own encB 1 4 wr base (.slice (some ⟨gd, 0, none⟩) n n) (ordB n s.ord)
  heap : HeapT wr gh gh (.func (.func 64) #[] #[]) v k f
  keep : Keep (SXb gc gp gd gh) wS wr
  hs : ∀ j, v.ownBlock = some j → wS.heap.size ≤ j
  lt : sb < wS.heap.size ∧ gc < wS.heap.size ∧ gp < wS.heap.size ∧ gd < wS.heap.size ∧ gh < wS.heap.size
  ne : sb ≠ gc ∧ sb ≠ gp ∧ sb ≠ gd ∧ sb ≠ gh ∧ gc ≠ gp ∧ gc ≠ gd ∧ gc ≠ gh ∧ gp ≠ gd ∧ gp ≠ gh ∧ gd ≠ gh
section
variable {base n sb gc gp gd gh : Nat} {ov hv kf v : Value} {k : Nat} {f : Nat → Ed} {s : SR} {wS wr w' : World}
end
end Go.Proofs.YtccailcjclbhlaaGreat
/-! A region that draws its order and only reads, walked once with the walk itself behind a variable: a long run of operations that are passed over is not looked into ahead of time. No condition, no program. -/
namespace Go.Proofs.YtccailcjclbhlaaGreat
open Go Go.RowKit
theorem wp_region_quiet_hid {P : Program} {id : Nat} {Q : Exit → Act → World → Prop} {a : Act} {w : World} {l : List Oper} (hm : P.follows .mixedOrders = true) (hB : Region.lexB .any l.toArray = true)
    (h : ∀ wq : (Act → Prop) → List Oper → Act → Prop,
      Hid (∀ (Q : Act → Prop) (o : Oper) (rest : List Oper) (a : Act), (∀ K : Act → Prop, Hid (∀ a, wq Q rest a → K a) → if Region.wanted o (yielded l.toArray a.tmps) then o.quiet P a (fun w' => ∃ n, w' = w.drewN n) K else K (a.put o.dst undef)) → wq Q (o :: rest) a) →
      Hid (∀ (Q : Act → Prop) (a : Act), Q a → wq Q [] a) → wq (fun a' => ∀ w', (∃ n, w' = w.drewN n) → Q .normal a' w') l a) : (Code.region id l.toArray true).wp P Q a w :=
  wp_region_quiet_lit hm hB (h (wpQuiet P l.toArray (fun w' => ∃ n, w' = w.drewN n)) (hide fun _ _ _ _ hs => wpQuiet_step fun K hK => hs K (hide hK)) (hide fun _ _ h => h))
end Go.Proofs.YtccailcjclbhlaaGreat
/-! A list of rows that grows by one row at a time, each row a slice of its own. Conditions: bounds on lengths. -/
namespace Go.Proofs.YtccailcjclbhlaaGreat
open Go.RowKit

/-- append of one element to a slice of the call's own; where the new slice lies -/
theorem wpList_pushL {α : Type} {enc : α → List Value} {sz : Nat} {e : TypeId} {w : World} {base : Nat} {v : Value} {xs : List α} {P : Program} {ops : Array Oper} {rest : List Oper} {o : Oper} {a : Act} {Q : Exit → Act → World → Prop} (hgd : o.guard = none) (s x : Operand) (t : TypeId)
    (ho : o.op = .call { callee := .builtin .append, args := #[s, x], argTypes := #[t, t] })
    (z : Value) (bytes : Nat) (ht : P.underlying t = some (.slice e)) (hinf : (P.info? e).map (fun i => (i.zero, i.size, i.bytes)) = some (some z, sz, bytes)) (hzs : z.cells.size = sz) (hsz : 0 < sz)
    (hlen : ∀ x, (enc x).length = sz) (hone : ∀ x, ∀ u ∈ enc x, u.oneCell' = true)
    (n : Nat) (hn : xs.length = n) (hs : a.eval s = v) (own : Own enc sz e w base v xs) (ad : Addr) (c : Nat) (y : α) (hx : a.eval x = .slice (some ad) 1 c)
    (hcells : ∀ j u, (enc y)[j]? = some u → w.cell? (ad.add j) = some u) (hbound : (n + 1) * bytes ≤ 140737488355328) (hmax : n + 1 ≤ maxLen) (hbase : base ≤ w.heap.size)
    (h : ∀ g c' w', Own enc sz e w' base (.slice (some ⟨g, 0, none⟩) (n + 1) c') (xs ++ [y]) → Below base w w' → w.grownBy w' v.ownBlock → (v.ownBlock = some g ∨ g = w.heap.size) → g < w'.heap.size → wpList P ops Q rest (a.put o.dst (.slice (some ⟨g, 0, none⟩) (n + 1) c')) w') : wpList P ops Q (o :: rest) a w := by
  subst hn
  obtain ⟨i0, hi, hz0, hz1, hz2⟩ := info_parts hinf
  refine wpList_append_lies w hgd s x t ho base e i0 z sz bytes ht hi hz0 hz1 hz2 hzs hsz v xs.length (xs.flatMap enc) hs own ad 1 c (enc y) hx (by rw [hlen, Nat.one_mul]) hcells (hone y) (by omega) hmax hbound hbase w.heap.size rfl ?_
  intro g cap w' own' hg hat hlt
  have own2 : Own enc sz e w' base (.slice (some ⟨g, 0, none⟩) (xs.length + 1) cap) (xs ++ [y]) := by
    unfold Own
    rw [List.length_append, List.flatMap_append]
    simpa using own'
  exact h g cap w' own2 ((Below.refl _ _).grown hg hbase (fun k hk => (own.block_lt k hk).1)) hg hat hlt
/-- a slice value: where it begins, its length, its room -/
structure S3 where
  a : Option Addr
  n : Nat
  c : Nat
end Go.Proofs.YtccailcjclbhlaaGreat
