/-
  What the functions of package ratio, and the reference's functions on fractions, return. Conditions: bounds on the numbers, as each theorem says.
-/
import Derived.Test.YtcehdpeeaogpiaaBase
import Derived.BigQuiet
import Derived.Deep.QuietTactic
import Derived.Deep.RegionHeld3
import Derived.WalkSpells
import Derived.WalkLawsBesides
namespace Go.Proofs.Ytcehdpeeaogpiaa
open Go.RowKit
set_option linter.unusedSimpArgs false
set_option linter.unusedVariables false

/-! ### plain numbers -/
def ratWithin (n : Int) : Bool := decide (-1000000 ≤ n ∧ n ≤ 1000000)
def gcdI (a b : Int) : Int := Int.gcd a b
theorem gcd_step (a b : Int) : gcdI b (a.tmod b) = gcdI a b := by
  simp only [gcdI, Int.gcd, Int.natAbs_tmod]
  rw [Nat.gcd_comm a.natAbs, Nat.gcd_rec b.natAbs a.natAbs, Nat.gcd_comm]
theorem tmod_abs (a b : Int) (h : b ≠ 0) : (a.tmod b).natAbs < b.natAbs := by
  rw [Int.natAbs_tmod]; exact Nat.mod_lt _ (by omega)
theorem gcd_zero (a : Int) : gcdI a 0 = max a (-a) := by
  unfold gcdI; simp; omega
theorem gcdI_pos (a b : Int) (h : 1 ≤ b) : 1 ≤ gcdI a b ∧ gcdI a b ≤ b := by
  unfold gcdI
  have h1 : 0 < Int.gcd a b := Int.gcd_pos_of_ne_zero_right _ (by omega)
  have h2 := Int.gcd_le_right a (show 0 < b by omega)
  omega

theorem within_any (n : Int) (w : World) : Calls Try.prog 211 #[.int .i64 n] w fun e w' => e = .returned (.bool (ratWithin n)) ∧ w = w' := by
  go_enter Try.func211, Try.ntmps211
  go_wp2
  all_goals
    go_ret
    refine ⟨?_, rfl⟩
    simp [ratWithin]
    try omega

theorem gcd_any (a b : Int) (ha : -4611686018427387904 ≤ a ∧ a ≤ 4611686018427387904) (hb : -4611686018427387904 ≤ b ∧ b ≤ 4611686018427387904) (w : World) :
    Calls Try.prog 227 #[.int .i64 a, .int .i64 b] w fun e w' => e = .returned (.int .i64 (gcdI a b)) ∧ ∃ n, w' = w.drewN n := by
  go_enter Try.func227, Try.ntmps227
  go_wp2
  go_loopw [0, 1] (fun x y wr => ∃ p q : Int, x = .int .i64 p ∧ y = .int .i64 q ∧ Hid (gcdI p q = gcdI a b) ∧ -4611686018427387904 ≤ p ∧ p ≤ 4611686018427387904 ∧ -4611686018427387904 ≤ q ∧ q ≤ 4611686018427387904 ∧ Hid (∃ n, wr = w.drewN n))
    (fun _ y _ => (intOf y).natAbs)
  case atStart => exact ⟨a, b, rfl, rfl, rfl, ha.1, ha.2, hb.1, hb.2, ⟨0, rfl⟩⟩
  case round =>
    obtain ⟨p, q, rfl, rfl, hg, hp1, hp2, hq1, hq2, hw⟩ := hrel
    by_cases h0 : q = 0
    · subst h0
      go_wp2
      all_goals
        go_ret
        refine ⟨ret_int ?_, hw.out⟩
        rw [← hg.out, gcd_zero]
        omega
    · have hq : (q == 0) = false := by simpa using h0
      have hq' : (q != 0) = true := by simpa using h0
      go_wp2
      go_quiet (fail)
      go_wp2
      go_roundw
      case rel =>
        refine ⟨q, p.tmod q, rfl, rfl, ?_, hq1, hq2, ?_, ?_, ?_⟩
        · rw [Hid, gcd_step]; exact hg.out
        · have := tmod_abs p q h0; omega
        · have := tmod_abs p q h0; omega
        · obtain ⟨n, hn⟩ := hw.out; exact ⟨n + nq, by rw [hn]; simp⟩
      case measure => simp only [intOf]; exact tmod_abs p q h0

def lst (n d : Int) : P2 := ⟨n.tdiv (gcdI n d), d / gcdI n d⟩
theorem least_any (n d : Int) (hn : -4611686018427387904 ≤ n ∧ n ≤ 4611686018427387904) (hd : 1 ≤ d ∧ d ≤ 4611686018427387904) (w : World) :
    Calls Try.prog 212 #[.int .i64 n, .int .i64 d] w fun e w' => e = .returned (.agg #[.int .i64 (lst n d).a, .int .i64 (lst n d).b]) ∧ Below w.heap.size w w' := by
  have hg := gcdI_pos n d hd.1
  go_enter Try.func212, Try.ntmps212
  go_wp2_with (go_at_call 227; refine (gcd_any _ _ (by omega) (by omega) _).mono ?_; rintro e w' ⟨rfl, m, rfl⟩)
  go_region
  all_goals
    go_wp2
    exact bodyPost_ret (v := .agg #[.int .i64 (lst n d).a, .int .i64 (lst n d).b]) (by simp [results, Try.results212, go_sem, lst]) rfl ⟨rfl, (by repeat (first | with_reducible exact Below.refl _ _ | with_reducible assumption | with_reducible refine up_drewN ?_ | with_reducible refine up_drew ?_ | (with_reducible refine up_alloc ?_ ?_; rotate_left; (first | omega | (simp <;> omega) | simp)) | (with_reducible refine up_set ?_ ?_; rotate_left; (first | omega | (simp <;> omega) | simp)) | (with_reducible refine Below.trans ?_ (Below.mono (by with_reducible assumption) ?_); rotate_left; (first | omega | (simp <;> omega) | simp))))⟩

def mkErr (n d : Int) : Int := if d < 1 ∨ ratWithin n = false ∨ ratWithin d = false then 1 else 0
def mkVal (n d : Int) : P2 := if d < 1 ∨ ratWithin n = false ∨ ratWithin d = false then ⟨0, 0⟩ else lst n d
theorem ratWithin_iff (n : Int) : ratWithin n = true ↔ -1000000 ≤ n ∧ n ≤ 1000000 := by simp [ratWithin]
theorem ratWithin_not (n : Int) : ratWithin n = false ↔ ¬ (-1000000 ≤ n ∧ n ≤ 1000000) := by simp [ratWithin]
theorem make_any (n d : Int) (w : World) :
    Calls Try.prog 188 #[.int .i64 n, .int .i64 d] w fun e w' => e = .returned (.tuple #[.agg #[.int .i64 (mkVal n d).a, .int .i64 (mkVal n d).b], .int .i64 (mkErr n d)]) ∧ Below w.heap.size w w' := by
  by_cases h : d < 1 ∨ ratWithin n = false ∨ ratWithin d = false
  · have he : mkErr n d = 1 := by simp [mkErr, h]
    have hv : mkVal n d = ⟨0, 0⟩ := by simp [mkVal, h]
    rw [he, hv]
    clear he hv
    by_cases h1 : d < 1
    · go_enter Try.func188, Try.ntmps188
      go_wp2
      exact bodyPost_ret (v := .tuple #[.agg #[.int .i64 0, .int .i64 0], .int .i64 1]) (by simp [results, Try.results188, go_sem]) rfl ⟨rfl, (by repeat (first | with_reducible exact Below.refl _ _ | with_reducible assumption | with_reducible refine up_drewN ?_ | with_reducible refine up_drew ?_ | (with_reducible refine up_alloc ?_ ?_; rotate_left; (first | omega | (simp <;> omega) | simp)) | (with_reducible refine up_set ?_ ?_; rotate_left; (first | omega | (simp <;> omega) | simp)) | (with_reducible refine Below.trans ?_ (Below.mono (by with_reducible assumption) ?_); rotate_left; (first | omega | (simp <;> omega) | simp))))⟩
    · by_cases h2 : ratWithin n = false
      · clear h
        go_enter Try.func188, Try.ntmps188
        go_wp2_with (go_at_call 211; refine (within_any _ _).mono ?_; rintro e w' ⟨rfl, rfl⟩)
        exact bodyPost_ret (v := .tuple #[.agg #[.int .i64 0, .int .i64 0], .int .i64 1]) (by simp [results, Try.results188, go_sem]) rfl ⟨rfl, (by repeat (first | with_reducible exact Below.refl _ _ | with_reducible assumption | with_reducible refine up_drewN ?_ | with_reducible refine up_drew ?_ | (with_reducible refine up_alloc ?_ ?_; rotate_left; (first | omega | (simp <;> omega) | simp)) | (with_reducible refine up_set ?_ ?_; rotate_left; (first | omega | (simp <;> omega) | simp)) | (with_reducible refine Below.trans ?_ (Below.mono (by with_reducible assumption) ?_); rotate_left; (first | omega | (simp <;> omega) | simp))))⟩
      · have h3 : ratWithin d = false := by simp [h1, h2] at h; exact h
        have h2' : ratWithin n = true := by simpa using h2
        clear h h2
        go_enter Try.func188, Try.ntmps188
        go_wp2_with (go_at_call 211; refine (within_any _ _).mono ?_; rintro e w' ⟨rfl, rfl⟩)
        exact bodyPost_ret (v := .tuple #[.agg #[.int .i64 0, .int .i64 0], .int .i64 1]) (by simp [results, Try.results188, go_sem]) rfl ⟨rfl, (by repeat (first | with_reducible exact Below.refl _ _ | with_reducible assumption | with_reducible refine up_drewN ?_ | with_reducible refine up_drew ?_ | (with_reducible refine up_alloc ?_ ?_; rotate_left; (first | omega | (simp <;> omega) | simp)) | (with_reducible refine up_set ?_ ?_; rotate_left; (first | omega | (simp <;> omega) | simp)) | (with_reducible refine Below.trans ?_ (Below.mono (by with_reducible assumption) ?_); rotate_left; (first | omega | (simp <;> omega) | simp))))⟩
  · have he : mkErr n d = 0 := by simp only [mkErr]; rw [if_neg h]
    have hv : mkVal n d = lst n d := by simp only [mkVal]; rw [if_neg h]
    rw [he, hv]
    clear he hv
    simp only [not_or, Bool.not_eq_false] at h
    obtain ⟨h1, h2, h3⟩ := h
    have b2 := (ratWithin_iff n).1 h2
    have b3 := (ratWithin_iff d).1 h3
    go_enter Try.func188, Try.ntmps188
    go_wp2_with (first | (go_at_call 211; refine (within_any _ _).mono ?_; rintro e w' ⟨rfl, rfl⟩) | (go_at_call 212; refine (least_any _ _ (by omega) (by omega) _).mono ?_; rintro e w1 ⟨rfl, hb⟩; obtain ⟨hc, hf⟩ := bcell hb; have hz := hb.size; simp at hz; have hz2 : w.heap.size < w1.heap.size := by omega))
    exact bodyPost_ret (v := .tuple #[.agg #[.int .i64 (lst n d).a, .int .i64 (lst n d).b], .int .i64 0]) (by simp [results, Try.results188, go_sem, hc, hz2]) rfl ⟨rfl, (by repeat (first | with_reducible exact Below.refl _ _ | with_reducible assumption | with_reducible refine up_drewN ?_ | with_reducible refine up_drew ?_ | (with_reducible refine up_alloc ?_ ?_; rotate_left; (first | omega | (simp <;> omega) | simp)) | (with_reducible refine up_set ?_ ?_; rotate_left; (first | omega | (simp <;> omega) | simp)) | (with_reducible refine Below.trans ?_ (Below.mono (by with_reducible assumption) ?_); rotate_left; (first | omega | (simp <;> omega) | simp))))⟩

def chk (r : P2) : Int := if mkErr r.a r.b ≠ 0 ∨ (mkVal r.a r.b).a ≠ r.a ∨ (mkVal r.a r.b).b ≠ r.b then 3 else 0
theorem chk_any (r : P2) (w : World) :
    Calls Try.prog 129 #[.agg #[.int .i64 r.a, .int .i64 r.b]] w fun e w' => e = .returned (.int .i64 (chk r)) ∧ Below w.heap.size w w' := by
  go_enter Try.func129, Try.ntmps129
  go_wp2_with (go_at_call 188; refine (make_any _ _ _).mono ?_; rintro e w1 ⟨rfl, hb⟩; obtain ⟨hc, hf⟩ := bcell hb; have hz := hb.size; simp at hz; have hz2 : w.heap.size < w1.heap.size := by omega)
  all_goals
    go_ret
    refine ⟨ret_int ?_, (by repeat (first | with_reducible exact Below.refl _ _ | with_reducible assumption | with_reducible refine up_drewN ?_ | with_reducible refine up_drew ?_ | (with_reducible refine up_alloc ?_ ?_; rotate_left; (first | omega | (simp <;> omega) | simp)) | (with_reducible refine up_set ?_ ?_; rotate_left; (first | omega | (simp <;> omega) | simp)) | (with_reducible refine Below.trans ?_ (Below.mono (by with_reducible assumption) ?_); rotate_left; (first | omega | (simp <;> omega) | simp))))⟩
    simp only [chk]
    split <;> omega

end Go.Proofs.Ytcehdpeeaogpiaa
