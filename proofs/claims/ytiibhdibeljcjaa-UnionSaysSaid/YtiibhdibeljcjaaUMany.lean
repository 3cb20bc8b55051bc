/-
  union.Many. Conditions: as each theorem says.
-/
import Derived.Test.YtiibhdibeljcjaaUOf
namespace Go.Proofs.Ytiibhdibeljcjaa
open Go.RowKit
set_option linter.unusedSimpArgs false
set_option linter.unusedVariables false

/-- how many of the first k numbers stand at their own place -/
def selfs (xs : List Int) (k : Nat) : Nat := (List.range k).countP fun i => xs.getD i (-1) == (i : Int)
theorem selfs_hit {xs : List Int} {k : Nat} (h : k < xs.length) (e : (k : Int) = xs[k]) : selfs xs (k + 1) = selfs xs k + 1 := by
  simp [selfs, List.range_succ, List.countP_append, List.getD, List.getElem?_eq_getElem h, ← e]
theorem selfs_miss {xs : List Int} {k : Nat} (h : k < xs.length) (e : ¬ (k : Int) = xs[k]) : selfs xs (k + 1) = selfs xs k := by
  have e' : ¬ xs[k] = (k : Int) := fun h => e h.symm
  simp [selfs, List.range_succ, List.countP_append, List.getD, List.getElem?_eq_getElem h, e']
theorem selfs_le (xs : List Int) (k : Nat) : selfs xs k ≤ k := by
  have := List.countP_le_length (p := fun i : Nat => xs.getD i (-1) == (i : Int)) (l := List.range k)
  simpa [selfs] using this
theorem bad_of {n : Int} {l : List P2} (hn : ¬ n < 0) (h : ¬ (n > 64 ∨ l.length > 600)) : 0 ≤ n ∧ n ≤ 64 ∧ l.length ≤ 600 := by omega
/-- Of, whatever it is given -/
theorem uof_all (n : Int) (a : Option Addr) (cap : Nat) (l : List P2) (w : World) (B : Nat) (hB : B ≤ w.heap.size) (hE : Row encP 2 w B a l) (hl : l.length ≤ 9223372036854775807) (xs : List Int) (err : Int) (hx : ofErr n l xs err) :
    Calls Try.prog 32 #[.int .i64 n, .slice a l.length cap] w (RowErr encI 1 xs err w) := by
  by_cases h : n < 0 ∨ n > 64 ∨ l.length > 600
  · have hne : pairsErr n l ≠ 0 := by
      intro h0
      have := pairs_ok h0
      omega
    rcases hx with ⟨_, rfl, rfl⟩ | ⟨h0, _⟩
    · exact uof_bad n a cap l w h hl
    · exact absurd h0 hne
  · obtain ⟨m, rfl⟩ := Int.eq_ofNat_of_zero_le (show 0 ≤ n by omega)
    exact uof_any m a cap l w B hB hE (by omega) (by omega) xs err hx
theorem of_len {n : Int} {l : List P2} {xs : List Int} {err : Int} (hx : ofErr n l xs err) : xs.length ≤ 64 := by
  rcases hx with ⟨_, rfl, _⟩ | ⟨h, rfl, _⟩
  · simp
  · have := pairs_ok h
    unfold grpOf
    rw [lst_len]
    omega

set_option maxHeartbeats 400000 in
theorem many_any (n : Int) (a : Option Addr) (cap : Nat) (l : List P2) (w : World) (B : Nat) (hB : B ≤ w.heap.size) (hE : Row encP 2 w B a l) (hl : l.length ≤ 9223372036854775807) (xs : List Int) (err : Int) (hx : ofErr n l xs err) :
    Calls Try.prog 33 #[.int .i64 n, .slice a l.length cap] w fun e w' => e = .returned (.tuple #[.int .i64 (selfs xs xs.length : Int), .int .i64 err]) ∧ Below w.heap.size w w' := by
  have hxl := of_len hx
  replace hE := hide hE
  replace hx := hide hx
  go_enter Try.func33, Try.ntmps33
  go_wp2_with fail
  refine (uof_all n a cap l _ B hB hE.out hl xs err hx.out).mono ?_
  rintro e w1 ⟨av, cv, rfl, hr, hb1⟩
  replace hr := hide hr
  replace hb1 := hide hb1
  go_wp2
  go_loopw [8, 19] (fun s8 i wr => ∃ (k : Nat), k ≤ xs.length ∧ i = .int .i64 k ∧ s8 = .int .i64 (selfs xs k : Int) ∧ Hid (∃ m, wr = w1.drewN m)) (fun _ i _ => xs.length - (intOf i).toNat)
  case atStart => exact ⟨0, Nat.zero_le _, rfl, rfl, ⟨0, rfl⟩⟩
  case round =>
    obtain ⟨k, hk, rfl, rfl, hw⟩ := hrel
    obtain ⟨m, rfl⟩ := hw.out
    by_cases hlt : k < xs.length
    · obtain ⟨b, o, rfl, hbB, c0⟩ := hr.out.int k hlt
      have hle := selfs_le xs k
      by_cases hs : (k : Int) = xs[k]
      · have q0 : ((k : Int) == xs[k]) = true := by simpa using hs
        have hh := hide (selfs_hit hlt hs)
        clear hs
        go_wp2
        go_roundw
        case rel => exact ⟨k + 1, by omega, by go_num, by rw [hh.out]; go_num, ⟨m, rfl⟩⟩
        case measure => simp [intOf]; omega
      · have q0 : ((k : Int) == xs[k]) = false := by simpa using hs
        have hh := hide (selfs_miss hlt hs)
        clear hs
        go_wp2
        go_roundw
        case rel => exact ⟨k + 1, by omega, by go_num, by rw [hh.out], ⟨m, rfl⟩⟩
        case measure => simp [intOf]; omega
    · obtain rfl : k = xs.length := by omega
      go_wp2
      go_ret2
      exact ⟨rfl, up_drewN hb1.out⟩
end Go.Proofs.Ytiibhdibeljcjaa
