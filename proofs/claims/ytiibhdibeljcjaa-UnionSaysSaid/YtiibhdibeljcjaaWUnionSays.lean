/-
  The walk of felllaw.UnionSays: it returns true. Conditions: the arguments read as data.
-/
import Derived.Test.YtiibhdibeljcjaaUMany
import Derived.Test.YtiibhdibeljcjaaRPairs
import Derived.Test.YtiibhdibeljcjaaRGroups
import Derived.Test.YtiibhdibeljcjaaEqL
namespace Go.Proofs.Ytiibhdibeljcjaa
open Go.ChangeShapes Go.WideShapes Go.ChangeAt Go.RowKit
set_option linter.unusedSimpArgs false
set_option linter.unusedVariables false

theorem selfs_nil : selfs [] 0 = 0 := rfl
set_option maxRecDepth 100000 in
set_option maxHeartbeats 1000000 in
theorem walk_UnionSays (x0 : Int) (a1 : Option Addr) (cap1 : Nat) (x1 : List P2) (w : World) (b0 : Bd x0) (l1 : x1.length ≤ cap1) (m1 : cap1 ≤ maxLen) (r1 : Row encP 2 w w.heap.size a1 x1) (b1 : ∀ x ∈ x1, BdP x) :
    Calls Try.prog 9 #[.int .i64 x0, .slice a1 x1.length cap1] w fun e w' => e = .returned (.bool true) ∧ Below w.heap.size w w' := by
  have hl : x1.length ≤ 9223372036854775807 := by unfold maxLen at m1; omega
  replace r1 := hide r1
  by_cases h0 : pairsErr x0 x1 = 0
  · obtain ⟨n1, n2, n3, n4⟩ := pairs_ok h0
    obtain ⟨n, rfl⟩ := Int.eq_ofNat_of_zero_le n1
    have hx : ofErr (n : Int) x1 (grpOf n x1) 0 := .inr ⟨h0, rfl, rfl⟩
    have hP := fun w B hB hE => pairs_any (n : Int) a1 cap1 x1 w B hB hE hl
    rw [h0] at hP
    replace hP := hide hP
    replace n4 := hide n4
    replace hx := hide hx
    have hgl : (grpOf n x1).length = n := lst_len _ _
    obtain ⟨gs, hgs⟩ : ∃ gs, gs = grpOf n x1 := ⟨_, rfl⟩
    rw [← hgs] at hgl
    replace hx := hide (show ofErr (n : Int) x1 gs 0 by rw [hgs]; exact hx.out)
    replace hgs := hide hgs
    clear h0
    go_enter Try.func9, Try.ntmps9
    go_wp2_with fail
    refine (uof_all (n : Int) a1 cap1 x1 _ w.heap.size (Nat.le_refl _) r1.out hl gs 0 hx.out).mono ?_
    rintro e w1 ⟨av, cv, rfl, hr, hb1⟩
    have hs1 := hb1.size
    replace hr := hide hr
    go_wp2_with fail
    refine (many_any (n : Int) a1 cap1 x1 _ w.heap.size hs1 (r1.out.below hb1 (Nat.le_refl _)) hl gs 0 hx.out).mono ?_
    rintro e w2 ⟨rfl, hb2⟩
    have hs2 := hb2.size
    go_wp2_with fail
    refine (hP.out _ w.heap.size (by omega) ((r1.out.below hb1 (Nat.le_refl _)).below hb2 hs1)).mono ?_
    rintro e w3 ⟨rfl, hb3⟩
    have hs3 := hb3.size
    go_wp2_with fail
    refine (rgroups_any n a1 cap1 x1 _ w.heap.size (by omega) (((r1.out.below hb1 (Nat.le_refl _)).below hb2 hs1).below hb3 (by omega)) (by omega) n3 n4.out).mono ?_
    rintro e w4 ⟨g, rfl, own, hb4⟩
    have hs4 := hb4.size
    rw [← hgs.out] at own
    have hr4 := hide (((hr.out.below hb2 (Nat.le_refl _)).below hb3 (by omega)).below hb4 (by omega))
    have hB4 : Below w.heap.size w w4 := ((hb1.trans (hb2.mono (by omega))).trans (hb3.mono (by omega))).trans (hb4.mono (by omega))
    replace hB4 := hide hB4
    replace own := hide own
    clear hb1 hb2 hb3 hb4 hr
    go_wp2
    go_loopw [11, 53] (fun s8 i wr => ∃ (k : Nat), k ≤ n ∧ i = .int .i64 k ∧ s8 = .int .i64 (selfs gs k : Int) ∧ Hid (∃ m, wr = w4.drewN m)) (fun _ i _ => n - (intOf i).toNat)
    case atStart => exact ⟨0, Nat.zero_le _, rfl, rfl, ⟨0, rfl⟩⟩
    case round =>
      obtain ⟨k, hk, rfl, rfl, hw⟩ := hrel
      obtain ⟨m, rfl⟩ := hw.out
      by_cases hlt : k < n
      · have hlt' : k < gs.length := by omega
        have c0 := own.out.getI k hlt'
        have hle := selfs_le gs k
        by_cases hs : (k : Int) = gs[k]
        · have q0 : ((k : Int) == gs[k]) = true := by simpa using hs
          have hh := hide (selfs_hit hlt' hs)
          clear hs
          go_wp2
          go_roundw
          case rel => exact ⟨k + 1, by omega, by go_num, by rw [hh.out]; go_num, ⟨m, rfl⟩⟩
          case measure => simp [intOf]; omega
        · have q0 : ((k : Int) == gs[k]) = false := by simpa using hs
          have hh := hide (selfs_miss hlt' hs)
          clear hs
          go_wp2
          go_roundw
          case rel => exact ⟨k + 1, by omega, by go_num, by rw [hh.out], ⟨m, rfl⟩⟩
          case measure => simp [intOf]; omega
      · obtain rfl : k = n := by omega
        obtain ⟨a', c', hv, hr5, _⟩ := own.out.row lenI
        simp only [Value.slice.injEq] at hv
        obtain ⟨rfl, h2, rfl⟩ := hv
        replace hr5 := hide hr5
        clear own hlt h2
        have hlen := hide hgl
        replace hgl := hide hgl
        go_wp2_with fail
        refine (eqI av (some ⟨g, 0, none⟩) cv k k k gs gs (w4.drewN m) w1.heap.size _ hlen.out hlen.out hr4.out hr5.out (by omega) (by omega) true (by simp)).mono ?_
        rintro e w5 ⟨rfl, m2, rfl⟩
        go_wp2
        go_ret
        exact ⟨rfl, up_drewN hB4.out⟩
  · have hx : ofErr x0 x1 [] (pairsErr x0 x1) := .inl ⟨h0, rfl, rfl⟩
    have q0 : (pairsErr x0 x1 != 0) = true := by simpa using h0
    have hs0 := hide selfs_nil
    replace hx := hide hx
    clear h0
    go_enter Try.func9, Try.ntmps9
    go_wp2_with fail
    refine (uof_all x0 a1 cap1 x1 _ w.heap.size (Nat.le_refl _) r1.out hl [] _ hx.out).mono ?_
    rintro e w1 ⟨av, cv, rfl, hr, hb1⟩
    have hs1 := hb1.size
    clear hr
    go_wp2_with fail
    refine (many_any x0 a1 cap1 x1 _ w.heap.size hs1 (r1.out.below hb1 (Nat.le_refl _)) hl [] _ hx.out).mono ?_
    rintro e w2 ⟨rfl, hb2⟩
    have hs2 := hb2.size
    go_wp2_with fail
    refine (pairs_any x0 a1 cap1 x1 _ w.heap.size (by omega) ((r1.out.below hb1 (Nat.le_refl _)).below hb2 hs1) hl).mono ?_
    rintro e w3 ⟨rfl, hb3⟩
    go_wp2
    go_ret
    exact ⟨rfl, (hb1.trans (hb2.mono (by omega))).trans (hb3.mono (by omega))⟩

end Go.Proofs.Ytiibhdibeljcjaa
