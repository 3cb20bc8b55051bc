/-
  Several texts in one:
  The reference's SameWay and SameFound over two that hold the same: true. Conditions: the lists read.
  What a search answers, as plain data. Conditions: none.
-/
import Derived.Test.YtcehdpeeaogpiaaEqA
import Derived.Test.YtcehdpeeaogpiaaBase
import Derived.Test.YtcehdpeeaogpiaaStarO
/-! The reference's SameWay and SameFound over two that hold the same: true. Conditions: the lists read. -/
namespace Go.Proofs.Ytcehdpeeaogpiaa
open Go.RowKit
set_option linter.unusedSimpArgs false
set_option linter.unusedVariables false
set_option maxHeartbeats 1000000 in
theorem sw_any (a b : Option Addr) (c1 c2 m : Nat) (xs : List Int) (cost : Int) (w : World) (h1 : xs.length = m) (hx : Row encI 1 w w.heap.size a xs) (hy : Row encI 1 w w.heap.size b xs) (hl : m ≤ 9223372036854775807) :
    Calls Try.prog 53 #[.agg #[.slice a m c1, .int .i64 cost], .agg #[.slice b m c2, .int .i64 cost]] w fun e w' => e = .returned (.bool true) ∧ Below w.heap.size w w' := by
  have hE := hide (fun (w' : World) (hb : Below w.heap.size w w') => eqI a b c1 c2 m m xs xs w' w.heap.size w.heap.size h1 h1 (hx.below hb (Nat.le_refl _)) (hy.below hb (Nat.le_refl _)) hl hl true (by simp))
  clear hx hy
  replace h1 := hide h1
  go_enter Try.func53, Try.ntmps53
  go_wp2_with fail
  refine (hE.out _ (by exact (by repeat (first | with_reducible exact Below.refl _ _ | with_reducible assumption | with_reducible refine up_drewN ?_ | with_reducible refine up_drew ?_ | (with_reducible refine up_alloc ?_ ?_; rotate_left; (first | omega | (simp <;> omega) | simp)) | (with_reducible refine up_set ?_ ?_; rotate_left; (first | omega | (simp <;> omega) | simp)) | (with_reducible refine Below.trans ?_ (Below.mono (by with_reducible assumption) ?_); rotate_left; (first | omega | (simp <;> omega) | simp)))))).mono ?_
  rintro e w1 ⟨rfl, m2, rfl⟩
  go_wp2
  go_ret
  exact ⟨rfl, (by repeat (first | with_reducible exact Below.refl _ _ | with_reducible assumption | with_reducible refine up_drewN ?_ | with_reducible refine up_drew ?_ | (with_reducible refine up_alloc ?_ ?_; rotate_left; (first | omega | (simp <;> omega) | simp)) | (with_reducible refine up_set ?_ ?_; rotate_left; (first | omega | (simp <;> omega) | simp)) | (with_reducible refine Below.trans ?_ (Below.mono (by with_reducible assumption) ?_); rotate_left; (first | omega | (simp <;> omega) | simp))))⟩
set_option maxHeartbeats 1000000 in
theorem sf_any (a b a2 b2 : Option Addr) (c1 c2 d1 d2 m k : Nat) (xs ys : List Int) (cost : Int) (w : World) (h1 : xs.length = m) (hx : Row encI 1 w w.heap.size a xs) (hy : Row encI 1 w w.heap.size b xs) (hl : m ≤ 9223372036854775807) (h2 : ys.length = k) (hx2 : Row encI 1 w w.heap.size a2 ys) (hy2 : Row encI 1 w w.heap.size b2 ys) (hl2 : k ≤ 9223372036854775807) :
    Calls Try.prog 41 #[.agg #[.slice a m c1, .int .i64 cost, .slice a2 k d1], .agg #[.slice b m c2, .int .i64 cost, .slice b2 k d2]] w fun e w' => e = .returned (.bool true) ∧ Below w.heap.size w w' := by
  have hE := hide (fun (w' : World) (hb : Below w.heap.size w w') => eqI a2 b2 d1 d2 k k ys ys w' w.heap.size w.heap.size h2 h2 (hx2.below hb (Nat.le_refl _)) (hy2.below hb (Nat.le_refl _)) hl2 hl2 true (by simp))
  have hW := hide (fun (w' : World) (hb : Below w.heap.size w w') => sw_any a b c1 c2 m xs cost w' h1 ((hx.below hb (Nat.le_refl _)).mono hb.size) ((hy.below hb (Nat.le_refl _)).mono hb.size) hl)
  clear hx hy hx2 hy2
  replace h1 := hide h1
  replace h2 := hide h2
  go_enter Try.func41, Try.ntmps41
  go_wp2_with fail
  refine (hW.out _ (by exact (by repeat (first | with_reducible exact Below.refl _ _ | with_reducible assumption | with_reducible refine up_drewN ?_ | with_reducible refine up_drew ?_ | (with_reducible refine up_alloc ?_ ?_; rotate_left; (first | omega | (simp <;> omega) | simp)) | (with_reducible refine up_set ?_ ?_; rotate_left; (first | omega | (simp <;> omega) | simp)) | (with_reducible refine Below.trans ?_ (Below.mono (by with_reducible assumption) ?_); rotate_left; (first | omega | (simp <;> omega) | simp)))))).mono ?_
  rintro e w1 ⟨rfl, hb1⟩
  have k1 := cu_below hb1 (p := ⟨w.heap.size, 2, none⟩) (v := .slice a2 k d1) (by simp [go_sem]) (by simp; omega)
  have k2 := cu_below hb1 (p := ⟨w.heap.size + 1, 2, none⟩) (v := .slice b2 k d2) (by simp [go_sem]) (by simp)
  have hb2 := hide ((((by repeat (first | with_reducible exact Below.refl _ _ | with_reducible assumption | with_reducible refine up_drewN ?_ | with_reducible refine up_drew ?_ | (with_reducible refine up_alloc ?_ ?_; rotate_left; (first | omega | (simp <;> omega) | simp)) | (with_reducible refine up_set ?_ ?_; rotate_left; (first | omega | (simp <;> omega) | simp)) | (with_reducible refine Below.trans ?_ (Below.mono (by with_reducible assumption) ?_); rotate_left; (first | omega | (simp <;> omega) | simp)))) : Below w.heap.size w _)).trans (hb1.mono (by simp; omega)))
  clear hb1
  go_wp2_with fail
  refine (hE.out _ hb2.out).mono ?_
  rintro e w2 ⟨rfl, m2, rfl⟩
  go_wp2
  go_ret
  exact ⟨rfl, up_drewN hb2.out⟩
end Go.Proofs.Ytcehdpeeaogpiaa

/-! What a search answers, as plain data. Conditions: none. -/
namespace Go.Proofs.Ytcehdpeeaogpiaa
open Go.RowKit
set_option linter.unusedSimpArgs false
set_option linter.unusedVariables false
def FoundIs (cost : Int) (xs ys : List Int) (er : Int) (w : World) (e : Ending) (w' : World) : Prop :=
  ∃ a m c b k d, m = xs.length ∧ k = ys.length ∧ e = .returned (.tuple #[.agg #[.slice a m c, .int .i64 cost, .slice b k d], .int .i64 er]) ∧ Own encI 1 3 w' w.heap.size (.slice a m c) xs ∧ Own encI 1 3 w' w.heap.size (.slice b k d) ys ∧ Below w.heap.size w w'
theorem found_is {key : Int → Int → Int} {E : List NE} {h : Nat → Int} {n tg : Nat} {s0 : SR} {o : Option SR} (ho : SRun key E h n tg s0 o) : ∃ cost xs ys er, ∀ w e w', FoundAns key E h n tg s0 w e w' → FoundIs cost xs ys er w e w' := by
  cases o with
  | none =>
    refine ⟨0, [], [], 5, fun w e w' hA => ?_⟩
    obtain ⟨o2, h1, h2, h3⟩ := hA
    obtain rfl := srun_one ho h1
    dsimp only at h3
    subst h3
    exact ⟨none, 0, 0, none, 0, 0, rfl, rfl, rfl, Own.nil _ _, Own.nil _ _, h2⟩
  | some s =>
    by_cases hex : ∃ l, Chain s.pred tg l
    · obtain ⟨l, hl⟩ := hex
      refine ⟨s.cost tg, LP l.reverse, LP s.ord, 0, fun w e w' hA => ?_⟩
      obtain ⟨o2, h1, h2, h3⟩ := hA
      obtain rfl := srun_one ho h1
      obtain ⟨l2, a, k, b, c, g1, rfl, g3, g4⟩ := h3
      obtain rfl := chain_one hl g1
      exact ⟨a, _, k, b, _, c, by simp [LP], by simp [LP], rfl, g3, g4, h2⟩
    · refine ⟨0, [], [], 0, fun w e w' hA => ?_⟩
      obtain ⟨o2, h1, h2, h3⟩ := hA
      obtain rfl := srun_one ho h1
      obtain ⟨l2, a, k, b, c, g1, _⟩ := h3
      exact absurd ⟨l2, g1⟩ hex
end Go.Proofs.Ytcehdpeeaogpiaa
