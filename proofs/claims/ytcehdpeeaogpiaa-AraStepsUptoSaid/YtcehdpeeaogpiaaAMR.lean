/-
  Several texts in one:
  What the functions of package ratio, and the reference's functions on fractions, return. Conditions: bounds on the numbers, as each theorem says.
  What the reference's functions on fractions return. Conditions: bounds on the numbers, as each theorem says.
  The check of a fraction and the reference's check are one. No condition.
  What weigh.Weight and the reference's Weight return: the same. No condition.
-/
import Derived.Test.YtcehdpeeaogpiaaBase
import Derived.BigQuiet
import Derived.Deep.QuietTactic
import Derived.Deep.RegionHeld3
import Derived.WalkSpells
import Derived.WalkLawsBesides
/-! What the functions of package ratio, and the reference's functions on fractions, return. Conditions: bounds on the numbers, as each theorem says. -/
namespace Go.Proofs.Ytcehdpeeaogpiaa
open Go.RowKit
set_option linter.unusedSimpArgs false
set_option linter.unusedVariables false

/-! ### plain numbers -/
def ratWithin (n : Int) : Bool := decide (-1000000 ≤ n ∧ n ≤ 1000000)
def gcdI (a b : Int) : Int := Int.gcd a b
theorem gcd_step (a b : Int) : gcdI b (a.tmod b) = gcdI a b := by
  simp only [gcdI, Int.gcd, Int.natAbs_tmod]
  rw [Nat.gcd_comm a.natAbs, Nat.gcd_rec b.natAbs a.natAbs, Nat.gcd_comm]
theorem tmod_abs (a b : Int) (h : b ≠ 0) : (a.tmod b).natAbs < b.natAbs := by
  rw [Int.natAbs_tmod]; exact Nat.mod_lt _ (by omega)
theorem gcd_zero (a : Int) : gcdI a 0 = max a (-a) := by
  unfold gcdI; simp; omega
theorem gcdI_pos (a b : Int) (h : 1 ≤ b) : 1 ≤ gcdI a b ∧ gcdI a b ≤ b := by
  unfold gcdI
  have h1 : 0 < Int.gcd a b := Int.gcd_pos_of_ne_zero_right _ (by omega)
  have h2 := Int.gcd_le_right a (show 0 < b by omega)
  omega

theorem within_any (n : Int) (w : World) : Calls Try.prog 211 #[.int .i64 n] w fun e w' => e = .returned (.bool (ratWithin n)) ∧ w = w' := by
  go_enter Try.func211, Try.ntmps211
  go_wp2
  all_goals
    go_ret
    refine ⟨?_, rfl⟩
    simp [ratWithin]
    try omega

theorem gcd_any (a b : Int) (ha : -4611686018427387904 ≤ a ∧ a ≤ 4611686018427387904) (hb : -4611686018427387904 ≤ b ∧ b ≤ 4611686018427387904) (w : World) :
    Calls Try.prog 227 #[.int .i64 a, .int .i64 b] w fun e w' => e = .returned (.int .i64 (gcdI a b)) ∧ ∃ n, w' = w.drewN n := by
  go_enter Try.func227, Try.ntmps227
  go_wp2
  go_loopw [0, 1] (fun x y wr => ∃ p q : Int, x = .int .i64 p ∧ y = .int .i64 q ∧ Hid (gcdI p q = gcdI a b) ∧ -4611686018427387904 ≤ p ∧ p ≤ 4611686018427387904 ∧ -4611686018427387904 ≤ q ∧ q ≤ 4611686018427387904 ∧ Hid (∃ n, wr = w.drewN n))
    (fun _ y _ => (intOf y).natAbs)
  case atStart => exact ⟨a, b, rfl, rfl, rfl, ha.1, ha.2, hb.1, hb.2, ⟨0, rfl⟩⟩
  case round =>
    obtain ⟨p, q, rfl, rfl, hg, hp1, hp2, hq1, hq2, hw⟩ := hrel
    by_cases h0 : q = 0
    · subst h0
      go_wp2
      all_goals
        go_ret
        refine ⟨ret_int ?_, hw.out⟩
        rw [← hg.out, gcd_zero]
        omega
    · have hq : (q == 0) = false := by simpa using h0
      have hq' : (q != 0) = true := by simpa using h0
      go_wp2
      go_quiet (fail)
      go_wp2
      go_roundw
      case rel =>
        refine ⟨q, p.tmod q, rfl, rfl, ?_, hq1, hq2, ?_, ?_, ?_⟩
        · rw [Hid, gcd_step]; exact hg.out
        · have := tmod_abs p q h0; omega
        · have := tmod_abs p q h0; omega
        · obtain ⟨n, hn⟩ := hw.out; exact ⟨n + nq, by rw [hn]; simp⟩
      case measure => simp only [intOf]; exact tmod_abs p q h0

def lst (n d : Int) : P2 := ⟨n.tdiv (gcdI n d), d / gcdI n d⟩
theorem least_any (n d : Int) (hn : -4611686018427387904 ≤ n ∧ n ≤ 4611686018427387904) (hd : 1 ≤ d ∧ d ≤ 4611686018427387904) (w : World) :
    Calls Try.prog 212 #[.int .i64 n, .int .i64 d] w fun e w' => e = .returned (.agg #[.int .i64 (lst n d).a, .int .i64 (lst n d).b]) ∧ Below w.heap.size w w' := by
  have hg := gcdI_pos n d hd.1
  go_enter Try.func212, Try.ntmps212
  go_wp2_with (go_at_call 227; refine (gcd_any _ _ (by omega) (by omega) _).mono ?_; rintro e w' ⟨rfl, m, rfl⟩)
  go_region
  all_goals
    go_wp2
    exact bodyPost_ret (v := .agg #[.int .i64 (lst n d).a, .int .i64 (lst n d).b]) (by simp [results, Try.results212, go_sem, lst]) rfl ⟨rfl, (by repeat (first | with_reducible exact Below.refl _ _ | with_reducible assumption | with_reducible refine up_drewN ?_ | with_reducible refine up_drew ?_ | (with_reducible refine up_alloc ?_ ?_; rotate_left; (first | omega | (simp <;> omega) | simp)) | (with_reducible refine up_set ?_ ?_; rotate_left; (first | omega | (simp <;> omega) | simp)) | (with_reducible refine Below.trans ?_ (Below.mono (by with_reducible assumption) ?_); rotate_left; (first | omega | (simp <;> omega) | simp))))⟩

def mkErr (n d : Int) : Int := if d < 1 ∨ ratWithin n = false ∨ ratWithin d = false then 1 else 0
def mkVal (n d : Int) : P2 := if d < 1 ∨ ratWithin n = false ∨ ratWithin d = false then ⟨0, 0⟩ else lst n d
theorem ratWithin_iff (n : Int) : ratWithin n = true ↔ -1000000 ≤ n ∧ n ≤ 1000000 := by simp [ratWithin]
theorem ratWithin_not (n : Int) : ratWithin n = false ↔ ¬ (-1000000 ≤ n ∧ n ≤ 1000000) := by simp [ratWithin]
theorem make_any (n d : Int) (w : World) :
    Calls Try.prog 188 #[.int .i64 n, .int .i64 d] w fun e w' => e = .returned (.tuple #[.agg #[.int .i64 (mkVal n d).a, .int .i64 (mkVal n d).b], .int .i64 (mkErr n d)]) ∧ Below w.heap.size w w' := by
  by_cases h : d < 1 ∨ ratWithin n = false ∨ ratWithin d = false
  · have he : mkErr n d = 1 := by simp [mkErr, h]
    have hv : mkVal n d = ⟨0, 0⟩ := by simp [mkVal, h]
    rw [he, hv]
    clear he hv
    by_cases h1 : d < 1
    · go_enter Try.func188, Try.ntmps188
      go_wp2
      exact bodyPost_ret (v := .tuple #[.agg #[.int .i64 0, .int .i64 0], .int .i64 1]) (by simp [results, Try.results188, go_sem]) rfl ⟨rfl, (by repeat (first | with_reducible exact Below.refl _ _ | with_reducible assumption | with_reducible refine up_drewN ?_ | with_reducible refine up_drew ?_ | (with_reducible refine up_alloc ?_ ?_; rotate_left; (first | omega | (simp <;> omega) | simp)) | (with_reducible refine up_set ?_ ?_; rotate_left; (first | omega | (simp <;> omega) | simp)) | (with_reducible refine Below.trans ?_ (Below.mono (by with_reducible assumption) ?_); rotate_left; (first | omega | (simp <;> omega) | simp))))⟩
    · by_cases h2 : ratWithin n = false
      · clear h
        go_enter Try.func188, Try.ntmps188
        go_wp2_with (go_at_call 211; refine (within_any _ _).mono ?_; rintro e w' ⟨rfl, rfl⟩)
        exact bodyPost_ret (v := .tuple #[.agg #[.int .i64 0, .int .i64 0], .int .i64 1]) (by simp [results, Try.results188, go_sem]) rfl ⟨rfl, (by repeat (first | with_reducible exact Below.refl _ _ | with_reducible assumption | with_reducible refine up_drewN ?_ | with_reducible refine up_drew ?_ | (with_reducible refine up_alloc ?_ ?_; rotate_left; (first | omega | (simp <;> omega) | simp)) | (with_reducible refine up_set ?_ ?_; rotate_left; (first | omega | (simp <;> omega) | simp)) | (with_reducible refine Below.trans ?_ (Below.mono (by with_reducible assumption) ?_); rotate_left; (first | omega | (simp <;> omega) | simp))))⟩
      · have h3 : ratWithin d = false := by simp [h1, h2] at h; exact h
        have h2' : ratWithin n = true := by simpa using h2
        clear h h2
        go_enter Try.func188, Try.ntmps188
        go_wp2_with (go_at_call 211; refine (within_any _ _).mono ?_; rintro e w' ⟨rfl, rfl⟩)
        exact bodyPost_ret (v := .tuple #[.agg #[.int .i64 0, .int .i64 0], .int .i64 1]) (by simp [results, Try.results188, go_sem]) rfl ⟨rfl, (by repeat (first | with_reducible exact Below.refl _ _ | with_reducible assumption | with_reducible refine up_drewN ?_ | with_reducible refine up_drew ?_ | (with_reducible refine up_alloc ?_ ?_; rotate_left; (first | omega | (simp <;> omega) | simp)) | (with_reducible refine up_set ?_ ?_; rotate_left; (first | omega | (simp <;> omega) | simp)) | (with_reducible refine Below.trans ?_ (Below.mono (by with_reducible assumption) ?_); rotate_left; (first | omega | (simp <;> omega) | simp))))⟩
  · have he : mkErr n d = 0 := by simp only [mkErr]; rw [if_neg h]
    have hv : mkVal n d = lst n d := by simp only [mkVal]; rw [if_neg h]
    rw [he, hv]
    clear he hv
    simp only [not_or, Bool.not_eq_false] at h
    obtain ⟨h1, h2, h3⟩ := h
    have b2 := (ratWithin_iff n).1 h2
    have b3 := (ratWithin_iff d).1 h3
    go_enter Try.func188, Try.ntmps188
    go_wp2_with (first | (go_at_call 211; refine (within_any _ _).mono ?_; rintro e w' ⟨rfl, rfl⟩) | (go_at_call 212; refine (least_any _ _ (by omega) (by omega) _).mono ?_; rintro e w1 ⟨rfl, hb⟩; obtain ⟨hc, hf⟩ := bcell hb; have hz := hb.size; simp at hz; have hz2 : w.heap.size < w1.heap.size := by omega))
    exact bodyPost_ret (v := .tuple #[.agg #[.int .i64 (lst n d).a, .int .i64 (lst n d).b], .int .i64 0]) (by simp [results, Try.results188, go_sem, hc, hz2]) rfl ⟨rfl, (by repeat (first | with_reducible exact Below.refl _ _ | with_reducible assumption | with_reducible refine up_drewN ?_ | with_reducible refine up_drew ?_ | (with_reducible refine up_alloc ?_ ?_; rotate_left; (first | omega | (simp <;> omega) | simp)) | (with_reducible refine up_set ?_ ?_; rotate_left; (first | omega | (simp <;> omega) | simp)) | (with_reducible refine Below.trans ?_ (Below.mono (by with_reducible assumption) ?_); rotate_left; (first | omega | (simp <;> omega) | simp))))⟩

def chk (r : P2) : Int := if mkErr r.a r.b ≠ 0 ∨ (mkVal r.a r.b).a ≠ r.a ∨ (mkVal r.a r.b).b ≠ r.b then 3 else 0
theorem chk_any (r : P2) (w : World) :
    Calls Try.prog 129 #[.agg #[.int .i64 r.a, .int .i64 r.b]] w fun e w' => e = .returned (.int .i64 (chk r)) ∧ Below w.heap.size w w' := by
  go_enter Try.func129, Try.ntmps129
  go_wp2_with (go_at_call 188; refine (make_any _ _ _).mono ?_; rintro e w1 ⟨rfl, hb⟩; obtain ⟨hc, hf⟩ := bcell hb; have hz := hb.size; simp at hz; have hz2 : w.heap.size < w1.heap.size := by omega)
  all_goals
    go_ret
    refine ⟨ret_int ?_, (by repeat (first | with_reducible exact Below.refl _ _ | with_reducible assumption | with_reducible refine up_drewN ?_ | with_reducible refine up_drew ?_ | (with_reducible refine up_alloc ?_ ?_; rotate_left; (first | omega | (simp <;> omega) | simp)) | (with_reducible refine up_set ?_ ?_; rotate_left; (first | omega | (simp <;> omega) | simp)) | (with_reducible refine Below.trans ?_ (Below.mono (by with_reducible assumption) ?_); rotate_left; (first | omega | (simp <;> omega) | simp))))⟩
    simp only [chk]
    split <;> omega

end Go.Proofs.Ytcehdpeeaogpiaa

/-! What the reference's functions on fractions return. Conditions: bounds on the numbers, as each theorem says. -/
namespace Go.Proofs.Ytcehdpeeaogpiaa
open Go.RowKit
set_option linter.unusedSimpArgs false
set_option linter.unusedVariables false


theorem part_any (n : Int) (w : World) : Calls Try.prog 189 #[.int .i64 n] w fun e w' => e = .returned (.bool (ratWithin n)) ∧ w' = w := by
  go_enter Try.func189, Try.ntmps189
  go_wp2
  all_goals
    go_ret
    refine ⟨?_, rfl⟩
    simp [ratWithin]
    try omega

def absI (n : Int) : Int := if n < 0 then -n else n
theorem gcd_abs (n d : Int) : gcdI (absI n) d = gcdI n d := by
  unfold gcdI absI Int.gcd; split <;> simp
theorem size_any (n : Int) (hn : -9223372036854775807 ≤ n ∧ n ≤ 9223372036854775807) (w : World) : Calls Try.prog 191 #[.int .i64 n] w fun e w' => e = .returned (.int .i64 (absI n)) ∧ w' = w := by
  go_enter Try.func191, Try.ntmps191
  go_wp2
  all_goals
    go_ret
    refine ⟨ret_int ?_, rfl⟩
    simp only [absI]
    split <;> omega

theorem common_any (k : Nat) : ∀ (a b : Int) (w : World), 0 ≤ a → a ≤ 4611686018427387904 → 0 ≤ b → b ≤ 4611686018427387904 → b.toNat ≤ k →
    Calls Try.prog 190 #[.int .i64 a, .int .i64 b] w fun e w' => e = .returned (.int .i64 (gcdI a b)) ∧ w' = w := by
  induction k with
  | zero =>
    intro a b w ha ha2 hb hb2 hk
    obtain rfl : b = 0 := by omega
    have hg : Hid (gcdI a 0 = a) := by rw [Hid, gcd_zero]; omega
    go_enter Try.func190, Try.ntmps190
    go_wp2_with fail
    go_ret
    exact ⟨ret_int hg.out.symm, rfl⟩
  | succ k ih =>
    intro a b w ha ha2 hb hb2 hk
    by_cases h0 : b = 0
    · subst h0
      have hg : Hid (gcdI a 0 = a) := by rw [Hid, gcd_zero]; omega
      clear ih
      go_enter Try.func190, Try.ntmps190
      go_wp2_with fail
      go_ret
      exact ⟨ret_int hg.out.symm, rfl⟩
    · have q0 : (b == 0) = false := by simpa using h0
      have hm := tmod_abs a b h0
      have hm2 := Int.tmod_nonneg b ha
      have hi := hide (ih b (a.tmod b) w hb hb2 hm2 (by omega) (by omega))
      have hg := hide (gcd_step a b)
      have e : a % b = a.tmod b := (Int.tmod_eq_emod_of_nonneg ha).symm
      have he := hide e
      clear ih h0 e
      go_enter Try.func190, Try.ntmps190
      go_wp2_with fail
      rw [he.out]
      refine hi.out.mono ?_
      rintro e w1 ⟨rfl, rfl⟩
      go_wp2_with fail
      go_ret
      exact ⟨ret_int hg.out, rfl⟩

def rchk (r : P2) : Int := if r.b < 1 ∨ ratWithin r.b = false ∨ ratWithin r.a = false ∨ gcdI r.a r.b ≠ 1 then 3 else 0
theorem rchk_any (r : P2) (w : World) :
    Calls Try.prog 130 #[.agg #[.int .i64 r.a, .int .i64 r.b]] w fun e w' => e = .returned (.int .i64 (rchk r)) ∧ Below w.heap.size w w' := by
  by_cases h1 : r.b < 1
  · have hr := hide (show rchk r = 3 by simp [rchk, h1])
    go_enter Try.func130, Try.ntmps130
    go_wp2_with fail
    go_quiet (fail)
    go_wp2
    go_ret
    exact ⟨ret_int hr.out.symm, (by repeat (first | with_reducible exact Below.refl _ _ | with_reducible assumption | with_reducible refine up_drewN ?_ | with_reducible refine up_drew ?_ | (with_reducible refine up_alloc ?_ ?_; rotate_left; (first | omega | (simp <;> omega) | simp)) | (with_reducible refine up_set ?_ ?_; rotate_left; (first | omega | (simp <;> omega) | simp)) | (with_reducible refine Below.trans ?_ (Below.mono (by with_reducible assumption) ?_); rotate_left; (first | omega | (simp <;> omega) | simp))))⟩
  have d1 : decide (r.b < 1) = false := by simpa using h1
  by_cases h2 : ratWithin r.b = false
  · have hr := hide (show rchk r = 3 by simp [rchk, h2])
    go_enter Try.func130, Try.ntmps130
    go_wp2_with fail
    go_quiet ((go_at_call 189; exact Calls.quiet_of_same (part_any _ _)))
    go_wp2
    go_ret
    exact ⟨ret_int hr.out.symm, (by repeat (first | with_reducible exact Below.refl _ _ | with_reducible assumption | with_reducible refine up_drewN ?_ | with_reducible refine up_drew ?_ | (with_reducible refine up_alloc ?_ ?_; rotate_left; (first | omega | (simp <;> omega) | simp)) | (with_reducible refine up_set ?_ ?_; rotate_left; (first | omega | (simp <;> omega) | simp)) | (with_reducible refine Below.trans ?_ (Below.mono (by with_reducible assumption) ?_); rotate_left; (first | omega | (simp <;> omega) | simp))))⟩
  rw [Bool.not_eq_false] at h2
  by_cases h3 : ratWithin r.a = false
  · have hr := hide (show rchk r = 3 by simp [rchk, h3])
    go_enter Try.func130, Try.ntmps130
    go_wp2_with fail
    go_quiet ((go_at_call 189; exact Calls.quiet_of_same (part_any _ _)))
    go_wp2
    go_ret
    exact ⟨ret_int hr.out.symm, (by repeat (first | with_reducible exact Below.refl _ _ | with_reducible assumption | with_reducible refine up_drewN ?_ | with_reducible refine up_drew ?_ | (with_reducible refine up_alloc ?_ ?_; rotate_left; (first | omega | (simp <;> omega) | simp)) | (with_reducible refine up_set ?_ ?_; rotate_left; (first | omega | (simp <;> omega) | simp)) | (with_reducible refine Below.trans ?_ (Below.mono (by with_reducible assumption) ?_); rotate_left; (first | omega | (simp <;> omega) | simp))))⟩
  rw [Bool.not_eq_false] at h3
  have b2 := (ratWithin_iff _).1 h2
  have b3 := (ratWithin_iff _).1 h3
  have ha : 0 ≤ absI r.a ∧ absI r.a ≤ 4611686018427387904 := by unfold absI; split <;> omega
  have hc := fun (w : World) => common_any r.b.toNat (absI r.a) r.b w (by omega) (by omega) (by omega) (by omega) (by omega)
  rw [gcd_abs] at hc
  have hC := hide hc
  clear hc
  by_cases h4 : gcdI r.a r.b = 1
  · have hr := hide (show rchk r = 0 by simp only [rchk]; rw [if_neg]; simp [h2, h3, h4]; omega)
    have h5 : (gcdI r.a r.b != 1) = false := by simp [h4]
    clear h4
    go_enter Try.func130, Try.ntmps130
    go_wp2_with fail
    go_quiet (first | (go_at_call 189; exact Calls.quiet_of_same (part_any _ _)) | (go_at_call 191; exact Calls.quiet_of_same (size_any _ (by omega) _)) | (go_at_call 190; exact Calls.quiet_of_same (hC.out _)))
    go_wp2
    go_ret
    exact ⟨ret_int hr.out.symm, (by repeat (first | with_reducible exact Below.refl _ _ | with_reducible assumption | with_reducible refine up_drewN ?_ | with_reducible refine up_drew ?_ | (with_reducible refine up_alloc ?_ ?_; rotate_left; (first | omega | (simp <;> omega) | simp)) | (with_reducible refine up_set ?_ ?_; rotate_left; (first | omega | (simp <;> omega) | simp)) | (with_reducible refine Below.trans ?_ (Below.mono (by with_reducible assumption) ?_); rotate_left; (first | omega | (simp <;> omega) | simp))))⟩
  · have hr := hide (show rchk r = 3 by simp [rchk, h4])
    have h5 : (gcdI r.a r.b != 1) = true := by simp [h4]
    clear h4
    go_enter Try.func130, Try.ntmps130
    go_wp2_with fail
    go_quiet (first | (go_at_call 189; exact Calls.quiet_of_same (part_any _ _)) | (go_at_call 191; exact Calls.quiet_of_same (size_any _ (by omega) _)) | (go_at_call 190; exact Calls.quiet_of_same (hC.out _)))
    go_wp2
    go_ret
    exact ⟨ret_int hr.out.symm, (by repeat (first | with_reducible exact Below.refl _ _ | with_reducible assumption | with_reducible refine up_drewN ?_ | with_reducible refine up_drew ?_ | (with_reducible refine up_alloc ?_ ?_; rotate_left; (first | omega | (simp <;> omega) | simp)) | (with_reducible refine up_set ?_ ?_; rotate_left; (first | omega | (simp <;> omega) | simp)) | (with_reducible refine Below.trans ?_ (Below.mono (by with_reducible assumption) ?_); rotate_left; (first | omega | (simp <;> omega) | simp))))⟩

end Go.Proofs.Ytcehdpeeaogpiaa

/-! The check of a fraction and the reference's check are one. No condition. -/
namespace Go.Proofs.Ytcehdpeeaogpiaa
theorem chk_rchk (r : P2) : chk r = rchk r := by
  by_cases h : r.b < 1 ∨ ratWithin r.a = false ∨ ratWithin r.b = false
  · have e1 : mkErr r.a r.b = 1 := by simp [mkErr, h]
    have e2 : chk r = 3 := by simp [chk, e1]
    rw [e2]
    simp only [rchk]
    rw [if_pos]
    rcases h with h | h | h <;> simp [h]
  · have e1 : mkErr r.a r.b = 0 := by simp only [mkErr]; rw [if_neg h]
    have e2 : mkVal r.a r.b = lst r.a r.b := by simp only [mkVal]; rw [if_neg h]
    simp only [not_or, Bool.not_eq_false] at h
    have hg := gcdI_pos r.a r.b (by omega)
    simp only [chk, rchk, e1, e2, lst, h.2.1, h.2.2]
    by_cases g1 : gcdI r.a r.b = 1
    · simp [g1]; omega
    · have hd : (gcdI r.a r.b) ∣ r.b := by unfold gcdI; exact Int.gcd_dvd_right ..
      have : r.b / gcdI r.a r.b ≠ r.b := by
        intro hh
        have h2 := Int.ediv_mul_cancel hd
        rw [hh] at h2
        have h3 : r.b * gcdI r.a r.b = r.b * 1 := by omega
        have := Int.eq_of_mul_eq_mul_left (by omega) h3
        exact g1 this
      simp [this, g1]

end Go.Proofs.Ytcehdpeeaogpiaa

/-! What weigh.Weight and the reference's Weight return: the same. No condition. -/
namespace Go.Proofs.Ytcehdpeeaogpiaa
open Go.RowKit
set_option linter.unusedSimpArgs false
set_option linter.unusedVariables false
def weighErr (r : P2) : Int := if chk r ≠ 0 then chk r else if r.a < r.b then 1 else 0
theorem weighErr_ok {r : P2} (h : weighErr r = 0) : 1 ≤ r.b ∧ r.b ≤ r.a ∧ r.a ≤ 1000000 := by
  unfold weighErr at h
  by_cases h1 : chk r = 0
  · rw [if_neg (by simpa using h1)] at h
    rw [chk_rchk] at h1
    unfold rchk at h1
    split at h1
    · omega
    · rename_i hc
      simp only [not_or, Int.not_lt, Bool.not_eq_false] at hc
      have h2 := (ratWithin_iff r.a).1 hc.2.2.1
      by_cases h3 : r.a < r.b
      · rw [if_pos h3] at h; omega
      · omega
  · rw [if_pos h1] at h; exact absurd h h1
theorem weight_any (r : P2) (w : World) : Calls Try.prog 56 #[.agg #[.int .i64 r.a, .int .i64 r.b]] w fun e w' => e = .returned (.int .i64 (weighErr r)) ∧ Below w.heap.size w w' := by
  have hC := hide (fun w => chk_any r w)
  obtain ⟨a, b⟩ := r
  simp only
  by_cases h0 : chk ⟨a, b⟩ = 0
  · have hr : weighErr ⟨a, b⟩ = if a < b then 1 else 0 := by unfold weighErr; rw [if_neg (by simpa using h0)]
    rw [hr]
    simp only [h0] at hC
    clear hr h0
    go_enter Try.func56, Try.ntmps56
    by_cases h1 : a < b
    · rw [if_pos h1]
      go_wp2_with fail
      refine (hC.out _).mono ?_
      rintro e w1 ⟨rfl, hb1⟩
      have k0 := cu_below hb1 (p := ⟨w.heap.size, 0, none⟩) (v := .int .i64 a) (by simp [go_sem]) (by simp)
      have k1 := cu_below hb1 (p := ⟨w.heap.size, 1, none⟩) (v := .int .i64 b) (by simp [go_sem]) (by simp)
      have hb2 := hide ((((by repeat (first | with_reducible exact Below.refl _ _ | with_reducible assumption | with_reducible refine up_drewN ?_ | with_reducible refine up_drew ?_ | (with_reducible refine up_alloc ?_ ?_; rotate_left; (first | omega | (simp <;> omega) | simp)) | (with_reducible refine up_set ?_ ?_; rotate_left; (first | omega | (simp <;> omega) | simp)) | (with_reducible refine Below.trans ?_ (Below.mono (by with_reducible assumption) ?_); rotate_left; (first | omega | (simp <;> omega) | simp)))) : Below w.heap.size w _)).trans (hb1.mono (by simp)))
      clear hb1
      go_wp2
      go_ret
      exact ⟨rfl, hb2.out⟩
    · rw [if_neg h1]
      go_wp2_with fail
      refine (hC.out _).mono ?_
      rintro e w1 ⟨rfl, hb1⟩
      have k0 := cu_below hb1 (p := ⟨w.heap.size, 0, none⟩) (v := .int .i64 a) (by simp [go_sem]) (by simp)
      have k1 := cu_below hb1 (p := ⟨w.heap.size, 1, none⟩) (v := .int .i64 b) (by simp [go_sem]) (by simp)
      have hb2 := hide ((((by repeat (first | with_reducible exact Below.refl _ _ | with_reducible assumption | with_reducible refine up_drewN ?_ | with_reducible refine up_drew ?_ | (with_reducible refine up_alloc ?_ ?_; rotate_left; (first | omega | (simp <;> omega) | simp)) | (with_reducible refine up_set ?_ ?_; rotate_left; (first | omega | (simp <;> omega) | simp)) | (with_reducible refine Below.trans ?_ (Below.mono (by with_reducible assumption) ?_); rotate_left; (first | omega | (simp <;> omega) | simp)))) : Below w.heap.size w _)).trans (hb1.mono (by simp)))
      clear hb1
      go_wp2
      go_ret
      exact ⟨rfl, hb2.out⟩
  · obtain ⟨er, her⟩ : ∃ er, er = chk ⟨a, b⟩ := ⟨_, rfl⟩
    have hr : weighErr ⟨a, b⟩ = er := by unfold weighErr; rw [if_pos h0, her]
    rw [hr]
    rw [← her] at hC h0
    have q0 : (er != 0) = true := by simpa using h0
    clear hr h0 her
    go_enter Try.func56, Try.ntmps56
    go_wp2_with fail
    refine (hC.out _).mono ?_
    rintro e w1 ⟨rfl, hb1⟩
    have hb2 := hide ((((by repeat (first | with_reducible exact Below.refl _ _ | with_reducible assumption | with_reducible refine up_drewN ?_ | with_reducible refine up_drew ?_ | (with_reducible refine up_alloc ?_ ?_; rotate_left; (first | omega | (simp <;> omega) | simp)) | (with_reducible refine up_set ?_ ?_; rotate_left; (first | omega | (simp <;> omega) | simp)) | (with_reducible refine Below.trans ?_ (Below.mono (by with_reducible assumption) ?_); rotate_left; (first | omega | (simp <;> omega) | simp)))) : Below w.heap.size w _)).trans (hb1.mono (by simp)))
    clear hb1
    go_wp2
    go_ret
    exact ⟨rfl, hb2.out⟩
theorem rweight_any (r : P2) (w : World) : Calls Try.prog 57 #[.agg #[.int .i64 r.a, .int .i64 r.b]] w fun e w' => e = .returned (.int .i64 (weighErr r)) ∧ Below w.heap.size w w' := by
  have hC := hide (fun w => rchk_any r w)
  rw [← chk_rchk] at hC
  obtain ⟨a, b⟩ := r
  simp only
  by_cases h0 : chk ⟨a, b⟩ = 0
  · have hr : weighErr ⟨a, b⟩ = if a < b then 1 else 0 := by unfold weighErr; rw [if_neg (by simpa using h0)]
    rw [hr]
    simp only [h0] at hC
    clear hr h0
    go_enter Try.func57, Try.ntmps57
    by_cases h1 : a < b
    · rw [if_pos h1]
      go_wp2_with fail
      refine (hC.out _).mono ?_
      rintro e w1 ⟨rfl, hb1⟩
      have k0 := cu_below hb1 (p := ⟨w.heap.size, 0, none⟩) (v := .int .i64 a) (by simp [go_sem]) (by simp)
      have k1 := cu_below hb1 (p := ⟨w.heap.size, 1, none⟩) (v := .int .i64 b) (by simp [go_sem]) (by simp)
      have hb2 := hide ((((by repeat (first | with_reducible exact Below.refl _ _ | with_reducible assumption | with_reducible refine up_drewN ?_ | with_reducible refine up_drew ?_ | (with_reducible refine up_alloc ?_ ?_; rotate_left; (first | omega | (simp <;> omega) | simp)) | (with_reducible refine up_set ?_ ?_; rotate_left; (first | omega | (simp <;> omega) | simp)) | (with_reducible refine Below.trans ?_ (Below.mono (by with_reducible assumption) ?_); rotate_left; (first | omega | (simp <;> omega) | simp)))) : Below w.heap.size w _)).trans (hb1.mono (by simp)))
      clear hb1
      go_wp2
      go_ret
      exact ⟨rfl, hb2.out⟩
    · rw [if_neg h1]
      go_wp2_with fail
      refine (hC.out _).mono ?_
      rintro e w1 ⟨rfl, hb1⟩
      have k0 := cu_below hb1 (p := ⟨w.heap.size, 0, none⟩) (v := .int .i64 a) (by simp [go_sem]) (by simp)
      have k1 := cu_below hb1 (p := ⟨w.heap.size, 1, none⟩) (v := .int .i64 b) (by simp [go_sem]) (by simp)
      have hb2 := hide ((((by repeat (first | with_reducible exact Below.refl _ _ | with_reducible assumption | with_reducible refine up_drewN ?_ | with_reducible refine up_drew ?_ | (with_reducible refine up_alloc ?_ ?_; rotate_left; (first | omega | (simp <;> omega) | simp)) | (with_reducible refine up_set ?_ ?_; rotate_left; (first | omega | (simp <;> omega) | simp)) | (with_reducible refine Below.trans ?_ (Below.mono (by with_reducible assumption) ?_); rotate_left; (first | omega | (simp <;> omega) | simp)))) : Below w.heap.size w _)).trans (hb1.mono (by simp)))
      clear hb1
      go_wp2
      go_ret
      exact ⟨rfl, hb2.out⟩
  · obtain ⟨er, her⟩ : ∃ er, er = chk ⟨a, b⟩ := ⟨_, rfl⟩
    have hr : weighErr ⟨a, b⟩ = er := by unfold weighErr; rw [if_pos h0, her]
    rw [hr]
    rw [← her] at hC h0
    have q0 : (er != 0) = true := by simpa using h0
    clear hr h0 her
    go_enter Try.func57, Try.ntmps57
    go_wp2_with fail
    refine (hC.out _).mono ?_
    rintro e w1 ⟨rfl, hb1⟩
    have hb2 := hide ((((by repeat (first | with_reducible exact Below.refl _ _ | with_reducible assumption | with_reducible refine up_drewN ?_ | with_reducible refine up_drew ?_ | (with_reducible refine up_alloc ?_ ?_; rotate_left; (first | omega | (simp <;> omega) | simp)) | (with_reducible refine up_set ?_ ?_; rotate_left; (first | omega | (simp <;> omega) | simp)) | (with_reducible refine Below.trans ?_ (Below.mono (by with_reducible assumption) ?_); rotate_left; (first | omega | (simp <;> omega) | simp)))) : Below w.heap.size w _)).trans (hb1.mono (by simp)))
    clear hb1
    go_wp2
    go_ret
    exact ⟨rfl, hb2.out⟩
end Go.Proofs.Ytcehdpeeaogpiaa
