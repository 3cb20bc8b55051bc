/-
  The edge that costs least between two places: walk.edge, and the reference's Edge. Conditions: costs within bounds.
-/
import Derived.Test.YtcehdpeeaogpiaaPlainB
import Derived.Test.YtcehdpeeaogpiaaNetL
namespace Go.Proofs.Ytcehdpeeaogpiaa
open Go.RowKit
set_option linter.unusedSimpArgs false
set_option linter.unusedVariables false

/-- what the edges from u to v cost at least; far, if there is none -/
def minE (u v : Int) (es : List Ed) : Int := es.foldl (fun a e => if e.u = u ∧ e.v = v then min a e.c else a) 1099511627776
theorem minE_nil (u v : Int) : minE u v [] = 1099511627776 := rfl
theorem minE_hit {u v : Int} {es : List Ed} {k : Nat} (h : k < es.length) (hu : es[k].u = u) (hv : es[k].v = v) : minE u v (es.take (k + 1)) = min (minE u v (es.take k)) es[k].c := by
  unfold minE
  rw [List.take_succ_eq_append_getElem h, List.foldl_append]
  simp [hu, hv]
theorem minE_miss {u v : Int} {es : List Ed} {k : Nat} (h : k < es.length) (hm : ¬ (es[k].u = u ∧ es[k].v = v)) : minE u v (es.take (k + 1)) = minE u v (es.take k) := by
  unfold minE
  rw [List.take_succ_eq_append_getElem h, List.foldl_append]
  simp only [List.foldl_cons, List.foldl_nil, if_neg hm]
theorem minE_bd {u v : Int} : ∀ {es : List Ed}, (∀ e ∈ es, -10000 ≤ e.c ∧ e.c ≤ 10000) → minE u v es = 1099511627776 ∨ (-10000 ≤ minE u v es ∧ minE u v es ≤ 10000) := by
  have key : ∀ (es : List Ed) (a : Int), (∀ e ∈ es, -10000 ≤ e.c ∧ e.c ≤ 10000) → (a = 1099511627776 ∨ (-10000 ≤ a ∧ a ≤ 10000)) →
      (es.foldl (fun a e => if e.u = u ∧ e.v = v then min a e.c else a) a = 1099511627776 ∨ (-10000 ≤ es.foldl (fun a e => if e.u = u ∧ e.v = v then min a e.c else a) a ∧ es.foldl (fun a e => if e.u = u ∧ e.v = v then min a e.c else a) a ≤ 10000)) := by
    intro es
    induction es with
    | nil => intro a _ h; exact h
    | cons e r ih =>
      intro a hc h
      refine ih _ (fun x hx => hc x (List.mem_cons_of_mem _ hx)) ?_
      have := hc e (List.mem_cons_self ..)
      dsimp only
      split <;> omega
  intro es h
  exact key es _ h (.inl rfl)
def bestV (m : Int) : Int := if m = 1099511627776 then 0 else m
def foundV (m : Int) : Bool := decide (m ≠ 1099511627776)
theorem bestV_far : bestV 1099511627776 = 0 := rfl
theorem foundV_far : foundV 1099511627776 = false := rfl
set_option maxHeartbeats 2000000 in
theorem wedge_any (N : Int) (a : Option Addr) (cap : Nat) (es : List Ed) (x y : Int) (w : World) (B : Nat) (hB : B ≤ w.heap.size) (hE : Row encE 3 w B a es) (hl : es.length ≤ 600) (hc : ∀ e ∈ es, -10000 ≤ e.c ∧ e.c ≤ 10000) (m : Int) (hm : m = minE x y es) :
    Calls Try.prog 213 #[.agg #[.int .i64 N, .slice a es.length cap], .int .i64 x, .int .i64 y] w fun e w' => e = .returned (.tuple #[.int .i64 (bestV m), .bool (foundV m)]) ∧ Below w.heap.size w w' := by
  replace hE := hide hE
  replace hc := hide hc
  replace hm := hide hm
  go_enter Try.func213, Try.ntmps213
  go_wp2
  go_loopw [8, 9, 11, 15] (fun s8 s9 _ i wr => ∃ (k : Nat) (b : Int) (f : Bool), k ≤ es.length ∧ i = .int .i64 k ∧ s8 = .int .i64 b ∧ s9 = .bool f ∧ Hid (b = bestV (minE x y (es.take k)) ∧ f = foundV (minE x y (es.take k))) ∧ Hid (Below w.heap.size w wr)) (fun _ _ _ i _ => es.length - (intOf i).toNat)
  case atStart => exact ⟨0, 0, false, Nat.zero_le _, rfl, rfl, rfl, ⟨rfl, rfl⟩, hide (by repeat (first | with_reducible exact Below.refl _ _ | with_reducible assumption | with_reducible refine up_drewN ?_ | with_reducible refine up_drew ?_ | (with_reducible refine up_alloc ?_ ?_; rotate_left; (first | omega | (simp <;> omega) | simp)) | (with_reducible refine up_set ?_ ?_; rotate_left; (first | omega | (simp <;> omega) | simp)) | (with_reducible refine Below.trans ?_ (Below.mono (by with_reducible assumption) ?_); rotate_left; (first | omega | (simp <;> omega) | simp))))⟩
  case round =>
    obtain ⟨k, b, f, hk, rfl, rfl, rfl, hbf, hb⟩ := hrel
    by_cases hlt : k < es.length
    · obtain ⟨bb, o, rfl, hbB, e0, e1, e2⟩ := hE.out.ed k hlt
      rw [← hb.out.cell (by simp; omega)] at e0 e1 e2
      have hcc := hc.out es[k] (List.getElem_mem hlt)
      have hbd := minE_bd (u := x) (v := y) (es := es.take k) (fun e he => hc.out e (List.mem_of_mem_take he))
      have hbs := hb.out.size
      have hbl : bb < wr.heap.size := by omega
      have hbw := hb.out
      obtain ⟨M, hM⟩ : ∃ M, M = minE x y (es.take k) := ⟨_, rfl⟩
      rw [← hM] at hbd hbf
      by_cases hmt : es[k].u = x ∧ es[k].v = y
      · have hnx := minE_hit hlt hmt.1 hmt.2
        rw [← hM] at hnx
        have q1 : (es[k].u == x) = true := by simpa using hmt.1
        have q2 : (es[k].v == y) = true := by simpa using hmt.2
        obtain ⟨c, hce⟩ : ∃ c, c = es[k].c := ⟨_, rfl⟩
        rw [← hce] at e2 hcc hnx
        replace hce := hide hce
        replace hM := hide hM
        replace hmt := hide hmt
        by_cases hF : M = 1099511627776
        · have hb0 : b = 0 := by rw [hbf.out.1, hF]; rfl
          have hf0 : f = false := by rw [hbf.out.2, hF]; rfl
          subst hb0 hf0
          have hn2 := hide (show minE x y (es.take (k + 1)) = c by rw [hnx, hF]; omega)
          clear hnx hbf hF hbd
          go_wp2
          go_roundw
          case rel =>
            refine ⟨k + 1, c, true, by omega, by go_num, rfl, rfl, ?_, hide (by repeat (first | with_reducible exact Below.refl _ _ | with_reducible assumption | with_reducible refine up_drewN ?_ | with_reducible refine up_drew ?_ | (with_reducible refine up_alloc ?_ ?_; rotate_left; (first | omega | (simp <;> omega) | simp)) | (with_reducible refine up_set ?_ ?_; rotate_left; (first | omega | (simp <;> omega) | simp)) | (with_reducible refine Below.trans ?_ (Below.mono (by with_reducible assumption) ?_); rotate_left; (first | omega | (simp <;> omega) | simp))))⟩
            rw [hn2.out]
            exact hide ⟨by unfold bestV; rw [if_neg (by omega)], by unfold foundV; simp; omega⟩
          case measure => simp [intOf]; omega
        · have hb0 : b = M := by rw [hbf.out.1]; unfold bestV; rw [if_neg hF]
          have hf0 : f = true := by rw [hbf.out.2]; unfold foundV; simpa using hF
          subst hb0 hf0
          have hbd2 : -10000 ≤ b ∧ b ≤ 10000 := by omega
          clear hbf hbd
          replace hF := hide hF
          by_cases hcb : c < b
          · have hn2 := hide (show minE x y (es.take (k + 1)) = c by rw [hnx]; omega)
            clear hnx
            go_wp2
            go_roundw
            case rel =>
              refine ⟨k + 1, c, true, by omega, by go_num, rfl, rfl, ?_, hide (by repeat (first | with_reducible exact Below.refl _ _ | with_reducible assumption | with_reducible refine up_drewN ?_ | with_reducible refine up_drew ?_ | (with_reducible refine up_alloc ?_ ?_; rotate_left; (first | omega | (simp <;> omega) | simp)) | (with_reducible refine up_set ?_ ?_; rotate_left; (first | omega | (simp <;> omega) | simp)) | (with_reducible refine Below.trans ?_ (Below.mono (by with_reducible assumption) ?_); rotate_left; (first | omega | (simp <;> omega) | simp))))⟩
              rw [hn2.out]
              exact hide ⟨by unfold bestV; rw [if_neg (by omega)], by unfold foundV; simp; omega⟩
            case measure => simp [intOf]; omega
          · have hn2 := hide (show minE x y (es.take (k + 1)) = b by rw [hnx]; omega)
            clear hnx
            go_wp2
            go_roundw
            case rel =>
              refine ⟨k + 1, b, true, by omega, by go_num, rfl, rfl, ?_, hide (by repeat (first | with_reducible exact Below.refl _ _ | with_reducible assumption | with_reducible refine up_drewN ?_ | with_reducible refine up_drew ?_ | (with_reducible refine up_alloc ?_ ?_; rotate_left; (first | omega | (simp <;> omega) | simp)) | (with_reducible refine up_set ?_ ?_; rotate_left; (first | omega | (simp <;> omega) | simp)) | (with_reducible refine Below.trans ?_ (Below.mono (by with_reducible assumption) ?_); rotate_left; (first | omega | (simp <;> omega) | simp))))⟩
              rw [hn2.out]
              exact hide ⟨by unfold bestV; rw [if_neg (by omega)], by unfold foundV; simp; omega⟩
            case measure => simp [intOf]; omega
      · have hnx := hide (minE_miss hlt hmt)
        have hcase : (es[k].u == x) = false ∨ ((es[k].u == x) = true ∧ (es[k].v == y) = false) := by
          by_cases h1 : es[k].u = x
          · right
            exact ⟨by simpa using h1, by simpa using (fun h => hmt ⟨h1, h⟩)⟩
          · left; simpa using h1
        replace hM := hide hM
        clear hmt
        rcases hcase with q1 | ⟨q1, q2⟩
        all_goals
          go_wp2
          go_roundw
          case rel =>
            refine ⟨k + 1, b, f, by omega, by go_num, rfl, rfl, ?_, hide (by repeat (first | with_reducible exact Below.refl _ _ | with_reducible assumption | with_reducible refine up_drewN ?_ | with_reducible refine up_drew ?_ | (with_reducible refine up_alloc ?_ ?_; rotate_left; (first | omega | (simp <;> omega) | simp)) | (with_reducible refine up_set ?_ ?_; rotate_left; (first | omega | (simp <;> omega) | simp)) | (with_reducible refine Below.trans ?_ (Below.mono (by with_reducible assumption) ?_); rotate_left; (first | omega | (simp <;> omega) | simp))))⟩
            rw [hnx.out, ← hM.out]
            exact hbf
          case measure => simp [intOf]; omega
    · obtain rfl : k = es.length := by omega
      have hfin := hbf.out
      rw [List.take_length, ← hm.out] at hfin
      replace hfin := hide hfin
      go_wp2
      go_ret2
      refine ⟨?_, hb.out⟩
      rw [← hfin.out.1, ← hfin.out.2]
      rfl
set_option maxHeartbeats 2000000 in
theorem redge_any (N : Int) (a : Option Addr) (cap : Nat) (es : List Ed) (x y : Int) (w : World) (B : Nat) (hB : B ≤ w.heap.size) (hE : Row encE 3 w B a es) (hl : es.length ≤ 600) (m : Int) (hm : m = minE x y es) :
    Calls Try.prog 127 #[.agg #[.int .i64 N, .slice a es.length cap], .int .i64 x, .int .i64 y] w fun e w' => e = .returned (.int .i64 m) ∧ Below w.heap.size w w' := by
  replace hE := hide hE
  replace hm := hide hm
  go_enter Try.func127, Try.ntmps127
  go_wp2
  go_loopw [7, 9, 13] (fun s7 _ i wr => ∃ (k : Nat) (b : Int), k ≤ es.length ∧ i = .int .i64 k ∧ s7 = .int .i64 b ∧ Hid (b = minE x y (es.take k)) ∧ Hid (Below w.heap.size w wr)) (fun _ _ i _ => es.length - (intOf i).toNat)
  case atStart => exact ⟨0, _, Nat.zero_le _, rfl, rfl, rfl, hide (by repeat (first | with_reducible exact Below.refl _ _ | with_reducible assumption | with_reducible refine up_drewN ?_ | with_reducible refine up_drew ?_ | (with_reducible refine up_alloc ?_ ?_; rotate_left; (first | omega | (simp <;> omega) | simp)) | (with_reducible refine up_set ?_ ?_; rotate_left; (first | omega | (simp <;> omega) | simp)) | (with_reducible refine Below.trans ?_ (Below.mono (by with_reducible assumption) ?_); rotate_left; (first | omega | (simp <;> omega) | simp))))⟩
  case round =>
    obtain ⟨k, b, hk, rfl, rfl, hbf, hb⟩ := hrel
    by_cases hlt : k < es.length
    · obtain ⟨bb, o, rfl, hbB, e0, e1, e2⟩ := hE.out.ed k hlt
      rw [← hb.out.cell (by simp; omega)] at e0 e1 e2
      have hbs := hb.out.size
      have hbl : bb < wr.heap.size := by omega
      have hbw := hb.out
      by_cases hmt : es[k].u = x ∧ es[k].v = y
      · have hnx := minE_hit hlt hmt.1 hmt.2
        rw [← hbf.out] at hnx
        have q1 : (es[k].u == x) = true := by simpa using hmt.1
        have q2 : (es[k].v == y) = true := by simpa using hmt.2
        obtain ⟨c, hce⟩ : ∃ c, c = es[k].c := ⟨_, rfl⟩
        rw [← hce] at e2 hnx
        replace hce := hide hce
        replace hmt := hide hmt
        by_cases hcb : c < b
        · have hn2 := hide (show minE x y (es.take (k + 1)) = c by rw [hnx]; omega)
          clear hnx
          go_wp2
          go_roundw
          case rel =>
            exact ⟨k + 1, c, by omega, by go_num, rfl, hn2.out.symm, hide (by repeat (first | with_reducible exact Below.refl _ _ | with_reducible assumption | with_reducible refine up_drewN ?_ | with_reducible refine up_drew ?_ | (with_reducible refine up_alloc ?_ ?_; rotate_left; (first | omega | (simp <;> omega) | simp)) | (with_reducible refine up_set ?_ ?_; rotate_left; (first | omega | (simp <;> omega) | simp)) | (with_reducible refine Below.trans ?_ (Below.mono (by with_reducible assumption) ?_); rotate_left; (first | omega | (simp <;> omega) | simp))))⟩
          case measure => simp [intOf]; omega
        · have hn2 := hide (show minE x y (es.take (k + 1)) = b by rw [hnx]; omega)
          clear hnx
          go_wp2
          go_roundw
          case rel =>
            exact ⟨k + 1, b, by omega, by go_num, rfl, hn2.out.symm, hide (by repeat (first | with_reducible exact Below.refl _ _ | with_reducible assumption | with_reducible refine up_drewN ?_ | with_reducible refine up_drew ?_ | (with_reducible refine up_alloc ?_ ?_; rotate_left; (first | omega | (simp <;> omega) | simp)) | (with_reducible refine up_set ?_ ?_; rotate_left; (first | omega | (simp <;> omega) | simp)) | (with_reducible refine Below.trans ?_ (Below.mono (by with_reducible assumption) ?_); rotate_left; (first | omega | (simp <;> omega) | simp))))⟩
          case measure => simp [intOf]; omega
      · have hnx := hide (minE_miss hlt hmt)
        have hcase : (es[k].u == x) = false ∨ ((es[k].u == x) = true ∧ (es[k].v == y) = false) := by
          by_cases h1 : es[k].u = x
          · right
            exact ⟨by simpa using h1, by simpa using (fun h => hmt ⟨h1, h⟩)⟩
          · left; simpa using h1
        clear hmt
        rcases hcase with q1 | ⟨q1, q2⟩
        all_goals
          go_wp2
          go_roundw
          case rel =>
            refine ⟨k + 1, b, by omega, by go_num, rfl, ?_, hide (by repeat (first | with_reducible exact Below.refl _ _ | with_reducible assumption | with_reducible refine up_drewN ?_ | with_reducible refine up_drew ?_ | (with_reducible refine up_alloc ?_ ?_; rotate_left; (first | omega | (simp <;> omega) | simp)) | (with_reducible refine up_set ?_ ?_; rotate_left; (first | omega | (simp <;> omega) | simp)) | (with_reducible refine Below.trans ?_ (Below.mono (by with_reducible assumption) ?_); rotate_left; (first | omega | (simp <;> omega) | simp))))⟩
            rw [hnx.out]
            exact hbf
          case measure => simp [intOf]; omega
    · obtain rfl : k = es.length := by omega
      have hfin := hbf.out
      rw [List.take_length, ← hm.out] at hfin
      subst hfin
      go_wp2
      go_ret
      exact ⟨rfl, hb.out⟩
end Go.Proofs.Ytcehdpeeaogpiaa
