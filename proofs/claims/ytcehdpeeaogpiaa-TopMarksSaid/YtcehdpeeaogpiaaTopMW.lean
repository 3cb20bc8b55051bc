/-
  What felltop.TopMarks leans on: guesses by landmarks, searches with them. Conditions: the slices read.
-/
import Derived.Test.YtcehdpeeaogpiaaTopMQ
import Derived.Test.YtcehdpeeaogpiaaStarM
import Derived.Test.YtcehdpeeaogpiaaBegun
namespace Go.Proofs.Ytcehdpeeaogpiaa
open Go.RowKit
set_option linter.unusedSimpArgs false
set_option linter.unusedVariables false
/-- guesses, or an error -/
def OfAns (N : Int) (es : List Ed) (ms : List Int) (t : Int) (w : World) (e : Ending) (w' : World) : Prop :=
  ∃ a m c er, e = .returned (.tuple #[.slice a m c, .int .i64 er]) ∧ Below w.heap.size w w' ∧ (er = 0 → markErr N es ms = 0 ∧ lookErr N es [t] = 0 ∧ m = N.toNat ∧ Row encI 1 w' w'.heap.size a (ofList N.toNat es ms t.toNat N.toNat))
theorem hof_all (N : Int) (a : Option Addr) (cap : Nat) (es : List Ed) (am : Option Addr) (cm q : Nat) (ms : List Int) (hq : ms.length = q) (t : Int) (w : World) (B : Nat) (hB : B ≤ w.heap.size) (hE : Row encE 3 w B a es) (hM : Row encI 1 w B am ms) (hl : es.length ≤ 9223372036854775807) (hl2 : q ≤ 9223372036854775807) :
    Calls Try.prog 21 #[.agg #[.int .i64 N, .slice a es.length cap], .slice am q cm, .int .i64 t] w (OfAns N es ms t w) := by
  by_cases h0 : markErr N es ms = 0
  · obtain ⟨p1, p2, p3⟩ := mark_ok h0
    obtain ⟨g3, g4⟩ := posErr_ok p1
    obtain ⟨n1, n2, n3, n4⟩ := netErr_ok g3
    obtain ⟨n, rfl⟩ := Int.eq_ofNat_of_zero_le (show 0 ≤ N by omega)
    by_cases h1 : lookErr (n : Int) es [t] = 0
    · have ht := (look_ok h1).2 t (by simp)
      obtain ⟨tt, rfl⟩ := Int.eq_ofNat_of_zero_le ht.1
      exact (hof_ok n a cap es am cm q ms hq tt w B hB hE hM hl h0 h1).mono fun e w' ⟨av, c, h2, h3, h4⟩ => ⟨av, n, c, 0, h2, h4, fun _ => ⟨h0, h1, by simp, by simpa using h3⟩⟩
    · exact (hof_look n a cap es am cm q ms hq t w B hB hE hM hl h0 h1).mono fun e w' ⟨av, c, h2, h3, h4⟩ => ⟨av, 0, c, _, h2, h4, fun h => absurd h h1⟩
  · exact (hof_mark N a cap es am cm q ms hq t w B hB hE hM hl hl2 h0).mono fun e w' ⟨av, c, h2, h3, h4⟩ => ⟨av, 0, c, _, h2, h4, fun h => absurd h h0⟩
/-- what a search with guesses by landmarks answers -/
def MRun (n : Nat) (es : List Ed) (s t : Nat) (h : Nat → Int) (w : World) (e : Ending) (w' : World) : Prop :=
  ∃ cost er fa m fc fb k fd, e = .returned (.tuple #[.agg #[.slice fa m fc, .int .i64 cost, .slice fb k fd], .int .i64 er]) ∧ Below w.heap.size w w' ∧ ((er = 5 ∧ cost = 0 ∧ distF n es s t = FAR) ∨ (er = 0 ∧ distF n es s t < FAR ∧ cost = distF n es s t ∧ ∃ ord : List Nat, k = ord.length ∧ k ≤ 9223372036854775807 ∧ Row encI 1 w' w'.heap.size fb (LP ord) ∧ ∀ v ∈ ord, v < n ∧ distF n es s v + h v ≤ distF n es s t))
theorem star_marks (n s t : Nat) (a : Option Addr) (cap : Nat) (es : List Ed) (ah : Option Addr) (ch : Nat) (ms : List Int) (w : World) (B : Nat) (hB : B ≤ w.heap.size) (hE : Row encE 3 w B a es) (hH : Row encI 1 w B ah (ofList n es ms t n)) (hl : es.length ≤ 9223372036854775807) (h0 : lookErr (n : Int) es [(s : Int), (t : Int)] = 0) (h1 : lookErr (n : Int) es [(t : Int)] = 0) (hm : ∀ x ∈ ms, 0 ≤ x ∧ x < (n : Int)) :
    Calls Try.prog 24 #[.agg #[.int .i64 (n : Int), .slice a es.length cap], .int .i64 (s : Int), .int .i64 (t : Int), .slice ah n ch] w (MRun n es s t (hAt (ofList n es ms t n)) w) := by
  obtain ⟨g1, g2⟩ := look_ok h0
  obtain ⟨g3, g4⟩ := posErr_ok g1
  obtain ⟨n1, n2, n3, n4⟩ := netErr_ok g3
  have hs : s < n := by have := g2 (s : Int) (by simp); omega
  have ht : t < n := by have := g2 (t : Int) (by simp); omega
  have hlen : (ofList n es ms t n).length = n := li_len _ _
  have hA := marks_agree (t := t) (ms := ms) (show n ≤ 64 by omega) n4 g4 hm ht
  have hR := srun_ok n s t a cap es ah ch (ofList n es ms t n) w B hB hE hH hl (by rw [hlen]; omega) (marks_look h0 h1 hm)
  rw [hlen] at hR
  refine hR.mono fun e w' ⟨o, r1, r2, r3⟩ => ?_
  rcases marks_run (show n ≤ 64 by omega) hA hs ht r1 with ⟨rfl, hd⟩ | ⟨s1, rfl, hd, hc, ho⟩
  · exact ⟨0, 5, none, 0, 0, none, 0, 0, r3, r2, .inl ⟨rfl, rfl, hd⟩⟩
  · obtain ⟨l, fa, fc, fb, fd, q1, q2, q3, q4⟩ := r3
    refine ⟨s1.cost t, 0, fa, _, fc, fb, _, fd, q2, r2, .inr ⟨rfl, hd, hc, s1.ord, rfl, ?_, own_rowL q4, ho⟩⟩
    rcases q4.form with ⟨h1, _⟩ | ⟨g, cp, h1, _, _, h2, h3⟩
    · simp only [Value.slice.injEq] at h1; omega
    · have := lp_len s1.ord
      unfold maxLen at h3; omega
theorem look_two {n s t : Nat} {es : List Ed} (h1 : lookErr (n : Int) es [(s : Int)] = 0) (h2 : lookErr (n : Int) es [(t : Int)] = 0) : lookErr (n : Int) es [(s : Int), (t : Int)] = 0 := by
  obtain ⟨g1, g2⟩ := look_ok h1
  have g3 := (look_ok h2).2 (t : Int) (by simp)
  have g4 := g2 (s : Int) (by simp)
  unfold lookErr
  rw [if_neg (by simp [g1])]
  unfold plErr
  rw [if_neg (by omega)]
  unfold plErr
  rw [if_neg (by omega)]
  rfl
theorem look_one {n s : Nat} {es : List Ed} (h1 : posErr (n : Int) es = 0) (hs : s < n) : lookErr (n : Int) es [(s : Int)] = 0 := by
  unfold lookErr
  rw [if_neg (by simp [h1])]
  unfold plErr
  rw [if_neg (by omega)]
  rfl
end Go.Proofs.Ytcehdpeeaogpiaa
