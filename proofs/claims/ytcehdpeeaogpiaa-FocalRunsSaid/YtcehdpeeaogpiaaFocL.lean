/-
  What focal's least, better and pick return. Conditions: the object reads as FX says; bounds on costs and guesses.
-/
import Derived.Test.YtcehdpeeaogpiaaFocX
import Derived.Test.YtcehdpeeaogpiaaQuietH
import Derived.BigQuiet
import Derived.Deep.QuietTactic
namespace Go.Proofs.Ytcehdpeeaogpiaa
open Go.RowKit
set_option linter.unusedSimpArgs false
set_option linter.unusedVariables false
/-- what is read alone: the object, the rows of guesses and tastes -/
structure FV (base n sb gc gp gw hc tc B : Nat) (ha ta : Option Addr) (ra rb : Int) (h taste : Nat → Int) (s : FR) (wS w : World) : Prop where
  fx : FX base n sb gc gp gw (.slice ha n hc) (.slice ta n tc) ra rb s wS w
  hr : Row encI 1 w B ha (LI n h)
  tr : Row encI 1 w B ta (LI n taste)
  hB : B ≤ w.heap.size
  hn : n ≤ 64
  hh : ∀ u, u < n → 0 ≤ h u ∧ h u ≤ 1099511627776
  hc : ∀ u, u < n → 0 ≤ s.cost u ∧ s.cost u ≤ 1099511627776
section
variable {base n sb gc gp gw hc tc B : Nat} {ha ta : Option Addr} {ra rb : Int} {h taste : Nat → Int} {s : FR} {wS w w' : World}
theorem FV.stays (v : FV base n sb gc gp gw hc tc B ha ta ra rb h taste s wS w) (b : Below w.heap.size w w') : FV base n sb gc gp gw hc tc B ha ta ra rb h taste s wS w' :=
  ⟨v.fx.stays b, v.hr.below b v.hB, v.tr.below b v.hB, Nat.le_trans v.hB b.size, v.hn, v.hh, v.hc⟩
end
set_option maxRecDepth 100000 in
set_option maxHeartbeats 4000000 in
theorem fleast_any (base n sb gc gp gw hc tc B : Nat) (ha ta : Option Addr) (ra rb : Int) (h taste : Nat → Int) (s : FR) (wS w : World) (hV : FV base n sb gc gp gw hc tc B ha ta ra rb h taste s wS w) :
    Calls Try.prog 193 #[.pointer (some ⟨sb, 0, none⟩)] w fun e w' => e = .returned (.tuple #[.int .i64 (lstF h s n).1, .bool (lstF h s n).2]) ∧ ∃ m, w' = w.drewN m := by
  have x0 := hV.fx.c0
  have x2 := hV.fx.c2
  have x4 := hV.fx.c4
  have hn := hV.hn
  have zs := cell_lt x0
  have hst := hide (show ∀ k, lstF h s (k + 1) = if s.wt k = true ∧ ((lstF h s k).2 = false ∨ fsum h s k < (lstF h s k).1) then (fsum h s k, true) else lstF h s k from fun k => rfl)
  replace hV := hide hV
  go_enter Try.func193, Try.ntmps193
  go_wp2
  go_loopw [4, 5, 14] (fun s4 s5 i wr => ∃ (k : Nat) (b : Int) (o : Bool), k ≤ n ∧ i = .int .i64 (k : Int) ∧ s4 = .int .i64 b ∧ s5 = .bool o ∧ Hid (lstF h s k = (b, o)) ∧ Hid (∃ m, wr = w.drewN m)) (fun _ _ i _ => n - (intOf i).toNat)
  case atStart => exact ⟨0, 0, false, Nat.zero_le _, rfl, rfl, rfl, hide rfl, hide ⟨0, rfl⟩⟩
  case round =>
    obtain ⟨k, b, o, hk, rfl, rfl, rfl, hl, hwm⟩ := hrel
    have hcell : Hid (∀ p v, w.cell? p = some v → wr.cell? p = some v) := hide (by obtain ⟨m, rfl⟩ := hwm.out; exact fun p v h => cu_drewN h)
    have hnext : Hid (∀ k, ∃ m, wr.drewN k = w.drewN m) := hide (by obtain ⟨m, rfl⟩ := hwm.out; exact fun k => ⟨m + k, by rw [World.drewN_drewN]⟩)
    have hwsz : w.heap.size = wr.heap.size := by obtain ⟨m, rfl⟩ := hwm.out; rfl
    by_cases hlt : k < n
    · have y2 := hcell.out _ _ x2
      have y0 := hcell.out _ _ x0
      have y4 := hcell.out _ _ x4
      have d1 := hcell.out _ _ (hV.out.fx.cost.atI k hlt)
      have d2 := hcell.out _ _ (hV.out.fx.wait.atLB k hlt)
      obtain ⟨hb, ho, rfl, hhb, d3⟩ := hV.out.hr.atI k hlt
      have d3 := hcell.out _ _ d3
      have hc1 := hV.out.hc k hlt
      have hh1 := hV.out.hh k hlt
      have zr := cell_lt d3
      have zs2 : sb < wr.heap.size := cell_lt y0
      have zc := cell_lt d1
      have zw := cell_lt d2
      (try simp only at zr)
      (try simp only at zc)
      (try simp only at zw)
      have hs2 := hst.out k
      rw [hl.out] at hs2
      simp only at hs2
      have hfs : fsum h s k = s.cost k + h k := rfl
      rw [hfs] at hs2
      obtain ⟨c, hcc⟩ : ∃ c, c = s.cost k := ⟨_, rfl⟩
      obtain ⟨g, hg⟩ : ∃ g, g = h k := ⟨_, rfl⟩
      rw [← hcc] at d1 hc1 hs2
      rw [← hg] at d3 hh1 hs2
      have hwr : IntKind.i64.wrap (c + g) = c + g := IntWalk.i64_in _ (by omega)
      have ik : (0 : Int) ≤ (k : Int) ∧ (k : Int) < (n : Int) := by omega
      replace hs2 := hide hs2
      clear hfs x0 x2 x4
      replace hcc := hide hcc
      replace hg := hide hg
      by_cases hw : s.wt k = true
      · rw [hw] at d2
        by_cases hob : o = false
        · subst hob
          have hnew := hide (show lstF h s (k + 1) = (c + g, true) by rw [hs2.out, if_pos ⟨hw, .inl rfl⟩])
          replace hw := hide hw
          go_wp2
          go_quiet (fail)
          go_wp2
          go_roundw
          case rel => exact ⟨k + 1, c + g, true, by omega, by go_num, rfl, rfl, hnew, hide (hnext.out nq)⟩
          case measure => simp [intOf]; omega
        · have ho1 : o = true := by simpa using hob
          subst ho1
          by_cases hlt2 : c + g < b
          · have hnew := hide (show lstF h s (k + 1) = (c + g, true) by rw [hs2.out, if_pos ⟨hw, .inr hlt2⟩])
            replace hw := hide hw
            go_wp2
            go_quiet (fail)
            go_wp2
            go_roundw
            case rel => exact ⟨k + 1, c + g, true, by omega, by go_num, rfl, rfl, hnew, hide (hnext.out nq)⟩
            case measure => simp [intOf]; omega
          · have hnew := hide (show lstF h s (k + 1) = (b, true) by rw [hs2.out, if_neg (by rintro ⟨_, h1 | h1⟩; cases h1; exact hlt2 h1)])
            replace hw := hide hw
            go_wp2
            go_quiet (fail)
            go_wp2
            go_roundw
            case rel => exact ⟨k + 1, b, true, by omega, by go_num, rfl, rfl, hnew, hide (hnext.out nq)⟩
            case measure => simp [intOf]; omega
      · have hwf : s.wt k = false := by simpa using hw
        rw [hwf] at d2
        have hnew := hide (show lstF h s (k + 1) = (b, o) by rw [hs2.out, if_neg (fun x => hw x.1)])
        replace hwf := hide hwf
        replace hw := hide hw
        go_wp2
        go_quiet (fail)
        go_wp2
        go_roundw
        case rel => exact ⟨k + 1, b, o, by omega, by go_num, rfl, rfl, hnew, hide (hnext.out nq)⟩
        case measure => simp [intOf]; omega
    · obtain rfl : n = k := by omega
      have hfin := hide hl.out
      go_wp2
      go_ret2
      rw [hfin.out]
      exact ⟨rfl, hwm.out⟩
set_option maxRecDepth 100000 in
set_option maxHeartbeats 4000000 in
theorem fbetter_any (base n sb gc gp gw hc tc B : Nat) (ha ta : Option Addr) (ra rb : Int) (h taste : Nat → Int) (s : FR) (wS w : World) (hV : FV base n sb gc gp gw hc tc B ha ta ra rb h taste s wS w) (a b : Nat) (ha1 : a < n) (hb1 : b < n) :
    Calls Try.prog 194 #[.pointer (some ⟨sb, 0, none⟩), .int .i64 (a : Int), .int .i64 (b : Int)] w fun e w' => e = .returned (.bool (plLt (tpl taste h s a) (tpl taste h s b))) ∧ ∃ m, w' = w.drewN m := by
  have x0 := hV.fx.c0
  have x1 := hV.fx.c1
  have x2 := hV.fx.c2
  have zs := cell_lt x0
  have p1 := hV.fx.cost.atI a ha1
  have p2 := hV.fx.cost.atI b hb1
  obtain ⟨hb, ho, rfl, hhb, p3⟩ := hV.hr.atI a ha1
  obtain ⟨hb', ho', he, hhb', p4⟩ := hV.hr.atI b hb1
  simp only [Option.some.injEq, Addr.mk.injEq] at he
  obtain ⟨rfl, rfl, -⟩ := he
  obtain ⟨tb, to', rfl, htb, p5⟩ := hV.tr.atI a ha1
  obtain ⟨tb', to'', he, htb', p6⟩ := hV.tr.atI b hb1
  simp only [Option.some.injEq, Addr.mk.injEq] at he
  obtain ⟨rfl, rfl, -⟩ := he
  have c1 := hV.hc a ha1
  have c2 := hV.hc b hb1
  have h1 := hV.hh a ha1
  have h2 := hV.hh b hb1
  have z3 := cell_lt p3
  have z5 := cell_lt p5
  have z1 := cell_lt p1
  (try simp only at zs)
  (try simp only at z1)
  (try simp only at z3)
  (try simp only at z5)
  have hpl : plLt (tpl taste h s a) (tpl taste h s b) = decide (taste a < taste b ∨ (taste a = taste b ∧ (s.cost a + h a < s.cost b + h b ∨ (s.cost a + h a = s.cost b + h b ∧ (a : Int) < (b : Int))))) := rfl
  rw [hpl]
  clear hpl
  generalize s.cost a = ca at p1 c1 ⊢
  generalize s.cost b = cb at p2 c2 ⊢
  generalize h a = ga at p3 h1 ⊢
  generalize h b = gb at p4 h2 ⊢
  generalize taste a = ta1 at p5 ⊢
  generalize taste b = tb1 at p6 ⊢
  have ia : (0 : Int) ≤ (a : Int) ∧ (a : Int) < (n : Int) := by omega
  have ib : (0 : Int) ≤ (b : Int) ∧ (b : Int) < (n : Int) := by omega
  have w1 : IntKind.i64.wrap (ca + ga) = ca + ga := IntWalk.i64_in _ (by omega)
  have w2 : IntKind.i64.wrap (cb + gb) = cb + gb := IntWalk.i64_in _ (by omega)
  clear hV
  by_cases ht : ta1 = tb1
  · subst ht
    have q1 : (ta1 != ta1) = false := by simp
    by_cases hs1 : ca + ga < cb + gb
    · have hfin := hide (show decide (ta1 < ta1 ∨ (ta1 = ta1 ∧ (ca + ga < cb + gb ∨ (ca + ga = cb + gb ∧ (a : Int) < (b : Int))))) = true by simp; omega)
      rw [hfin.out]
      go_enter Try.func194, Try.ntmps194
      go_wp2
      go_quiet (fail)
      go_wp2
      go_quiet (fail)
      go_wp2
      go_ret
      exact ⟨ret_bool (by first | rfl | (simp; done) | (simp; omega)), _, by first | rfl | exact World.drewN_drewN _ _ _⟩
    · by_cases hs2 : ca + ga = cb + gb
      · have q2 : (ca + ga == cb + gb) = true := by simpa using hs2
        have hs1' : ¬ (ca + ga < cb + gb) := hs1
        by_cases hab : (a : Int) < (b : Int)
        · have hfin := hide (show decide (ta1 < ta1 ∨ (ta1 = ta1 ∧ (ca + ga < cb + gb ∨ (ca + ga = cb + gb ∧ (a : Int) < (b : Int))))) = true by simp; omega)
          rw [hfin.out]
          replace hs2 := hide hs2
          go_enter Try.func194, Try.ntmps194
          go_wp2
          go_quiet (fail)
          go_wp2
          go_quiet (fail)
          go_wp2
          go_ret
          exact ⟨ret_bool (by first | rfl | (simp; done) | (simp; omega)), _, by first | rfl | exact World.drewN_drewN _ _ _⟩
        · have hfin := hide (show decide (ta1 < ta1 ∨ (ta1 = ta1 ∧ (ca + ga < cb + gb ∨ (ca + ga = cb + gb ∧ (a : Int) < (b : Int))))) = false by simp; omega)
          rw [hfin.out]
          replace hs2 := hide hs2
          go_enter Try.func194, Try.ntmps194
          go_wp2
          go_quiet (fail)
          go_wp2
          go_quiet (fail)
          go_wp2
          go_ret
          exact ⟨ret_bool (by first | rfl | (simp; done) | (simp; omega)), _, by first | rfl | exact World.drewN_drewN _ _ _⟩
      · have q2 : (ca + ga == cb + gb) = false := by simpa using hs2
        have hfin := hide (show decide (ta1 < ta1 ∨ (ta1 = ta1 ∧ (ca + ga < cb + gb ∨ (ca + ga = cb + gb ∧ (a : Int) < (b : Int))))) = false by simp; omega)
        rw [hfin.out]
        replace hs2 := hide hs2
        go_enter Try.func194, Try.ntmps194
        go_wp2
        go_quiet (fail)
        go_wp2
        go_quiet (fail)
        go_wp2
        go_ret
        exact ⟨ret_bool (by first | rfl | (simp; done) | (simp; omega)), _, by first | rfl | exact World.drewN_drewN _ _ _⟩
  · have q1 : (ta1 != tb1) = true := by simpa using ht
    by_cases hs1 : ta1 < tb1
    · have hfin := hide (show decide (ta1 < tb1 ∨ (ta1 = tb1 ∧ (ca + ga < cb + gb ∨ (ca + ga = cb + gb ∧ (a : Int) < (b : Int))))) = true by simp; omega)
      rw [hfin.out]
      replace ht := hide ht
      go_enter Try.func194, Try.ntmps194
      go_wp2
      go_quiet (fail)
      go_wp2
      go_quiet (fail)
      go_wp2
      go_ret
      exact ⟨ret_bool (by first | rfl | (simp; done) | (simp; omega)), _, by first | rfl | exact World.drewN_drewN _ _ _⟩
    · have hfin := hide (show decide (ta1 < tb1 ∨ (ta1 = tb1 ∧ (ca + ga < cb + gb ∨ (ca + ga = cb + gb ∧ (a : Int) < (b : Int))))) = false by simp; omega)
      rw [hfin.out]
      replace ht := hide ht
      go_enter Try.func194, Try.ntmps194
      go_wp2
      go_quiet (fail)
      go_wp2
      go_quiet (fail)
      go_wp2
      go_ret
      exact ⟨ret_bool (by first | rfl | (simp; done) | (simp; omega)), _, by first | rfl | exact World.drewN_drewN _ _ _⟩
end Go.Proofs.Ytcehdpeeaogpiaa
