/-
  What focal's pick returns: the place to look from, or -1. Conditions: the object reads as FX says; bounds; a right weight.
-/
import Derived.Test.YtcehdpeeaogpiaaFocL
namespace Go.Proofs.Ytcehdpeeaogpiaa
open Go.RowKit
set_option linter.unusedSimpArgs false
set_option linter.unusedVariables false
def PickAns (h taste : Nat → Int) (r : P2) (n : Nat) (s : FR) (p : Int) : Prop := (p = -1 ∧ ∀ v, v < n → s.wt v = false) ∨ ∃ v : Nat, p = (v : Int) ∧ Pick h taste r n s v
theorem range_fold (pl : Nat → Ed) (adm : Nat → Bool) (k : Nat) : (List.range (k + 1)).foldl (pstep pl adm) (-1) = pstep pl adm ((List.range k).foldl (pstep pl adm) (-1)) k := by
  rw [List.range_succ, List.foldl_append]; rfl
set_option maxRecDepth 100000 in
set_option maxHeartbeats 8000000 in
theorem fpick_any (base n sb gc gp gw hc tc B : Nat) (ha ta : Option Addr) (ra rb : Int) (h taste : Nat → Int) (s : FR) (wS w : World) (hV : FV base n sb gc gp gw hc tc B ha ta ra rb h taste s wS w) (hr : 1 ≤ rb ∧ rb ≤ ra ∧ ra ≤ 1000000) :
    Calls Try.prog 132 #[.pointer (some ⟨sb, 0, none⟩)] w fun e w' => ∃ p, e = .returned (.int .i64 p) ∧ PickAns h taste ⟨ra, rb⟩ n s p ∧ ∃ m, w' = w.drewN m := by
  have hn := hV.hn
  have hL := hide (fleast_any base n sb gc gp gw hc tc B ha ta ra rb h taste s wS w hV)
  have hls := lstF_least h s n
  obtain ⟨m, hm⟩ : ∃ m, m = (lstF h s n).1 := ⟨_, rfl⟩
  obtain ⟨o, ho⟩ : ∃ o, o = (lstF h s n).2 := ⟨_, rfl⟩
  rw [← hm, ← ho] at hL hls
  replace hm := hide hm
  replace ho := hide ho
  rcases hls with ⟨rfl, hnw⟩ | ⟨rfl, hlm⟩
  · have hfin := hide (show PickAns h taste ⟨ra, rb⟩ n s (-1) from .inl ⟨rfl, hnw⟩)
    replace hnw := hide hnw
    replace hV := hide hV
    go_enter Try.func132, Try.ntmps132
    go_wp2_with fail
    refine hL.out.mono ?_
    rintro e w1 ⟨rfl, m1, hw1⟩
    have hV1 := hide (hV.out.stays (w' := w1) (by rw [hw1]; exact up_drewN (Below.refl _ _)))
    have x4 := hV1.out.fx.c4
    have z4 := cell_lt x4
    clear hL
    replace hw1 := hide hw1
    go_wp2
    go_loopw [5, 18] (fun s5 i wr => ∃ (k : Nat), k ≤ n ∧ i = .int .i64 (k : Int) ∧ s5 = .int .i64 (-1) ∧ Hid (∃ m, wr = w1.drewN m)) (fun _ i _ => n - (intOf i).toNat)
    case atStart => exact ⟨0, Nat.zero_le _, rfl, rfl, hide ⟨0, rfl⟩⟩
    case round =>
      obtain ⟨k, hk, rfl, rfl, hwm⟩ := hrel
      have hcell : Hid (∀ p v, w1.cell? p = some v → wr.cell? p = some v) := hide (by obtain ⟨m, rfl⟩ := hwm.out; exact fun p v h => cu_drewN h)
      have hnext : Hid (∀ k, ∃ m, wr.drewN k = w1.drewN m) := hide (by obtain ⟨m, rfl⟩ := hwm.out; exact fun k => ⟨m + k, by rw [World.drewN_drewN]⟩)
      by_cases hlt : k < n
      · have y4 := hcell.out _ _ x4
        have d2 := hcell.out _ _ (hV1.out.fx.wait.atLB k hlt)
        have zw := cell_lt d2
        have ik : (0 : Int) ≤ (k : Int) ∧ (k : Int) < (n : Int) := by omega
        generalize s.wt k = bw at d2
        clear x4
        go_wp2
        (refine wp_region_quiet_hid (by kernel_rfl) (by kernel_rfl) (fun wq hst hni => ?_); (repeat (refine hst.out _ _ _ _ (fun K hK => ?_); go_simp; first | (refine hK.out _ ?_; clear hK K) | (apply Exists.intro; refine ⟨fun _ => ?_, hK.out _ ?_⟩; (fail); clear hK K))); refine hni.out _ _ ?_; clear hst hni wq; intro wqq hw'; obtain ⟨nq, hw''⟩ := hw'; subst hw'')
        go_wp2
        go_roundw
        case rel => exact ⟨k + 1, by omega, by go_num, rfl, hide (hnext.out nq)⟩
        case measure => simp [intOf]; omega
      · obtain rfl : n = k := by omega
        go_wp2
        go_ret
        obtain ⟨m2, rfl⟩ := hwm.out
        refine ⟨-1, rfl, hfin.out, ?_⟩
        rw [hw1.out]
        exact ⟨m1 + m2, World.drewN_drewN _ _ _⟩
  · have hm0 : 0 ≤ m ∧ m ≤ 2199023255552 := by
      obtain ⟨⟨u, u1, u2, u3⟩, _⟩ := hlm
      have a1 := hV.hc u u1
      have a2 := hV.hh u u1
      unfold fsum at u3
      omega
    obtain ⟨adm, hadm⟩ : ∃ adm : Nat → Bool, adm = fun v => s.wt v && decide ((s.cost v + h v) * rb ≤ ra * m) := ⟨_, rfl⟩
    have hpk := hide (pick_is (taste := taste) (r := ⟨ra, rb⟩) ⟨hr.1, hr.2.1⟩ hlm hm0.1 adm (List.range n) (fun v => by
      rw [hadm]
      simp only [List.mem_range, Bool.and_eq_true, decide_eq_true_eq, Adm, fsum]
      rw [Int.mul_comm (s.cost v + h v) rb]))
    have hBt := hide (fun (a b : Nat) (j : Nat) (w' : World) (hw : ∃ m, w' = w.drewN m) (ha1 : a < n) (hb1 : b < n) => fbetter_any base n sb gc gp gw hc tc B ha ta ra rb h taste s wS w' (hV.stays (by obtain ⟨m, rfl⟩ := hw; exact up_drewN (Below.refl _ _))) a b ha1 hb1)
    have hst := hide (range_fold (tpl taste h s) adm)
    have hps := hide (show ∀ b v, pstep (tpl taste h s) adm b v = if (s.wt v && decide ((s.cost v + h v) * rb ≤ ra * m)) = true ∧ (b < 0 ∨ plLt (tpl taste h s v) (tpl taste h s b.toNat) = true) then (v : Int) else b from fun b v => by unfold pstep; rw [hadm])
    have q2 : 0 ≤ ra * m ∧ ra * m ≤ 2199023255552000000 := ⟨Int.mul_nonneg (by omega) hm0.1, by
      have : ra * m ≤ 1000000 * 2199023255552 := Int.mul_le_mul hr.2.2 hm0.2 hm0.1 (by omega)
      omega⟩
    have w2 : IntKind.i64.wrap (ra * m) = ra * m := IntWalk.i64_in _ (by omega)
    obtain ⟨pl, hpl⟩ : ∃ pl, pl = tpl taste h s := ⟨_, rfl⟩
    rw [← hpl] at hpk hst hps hBt
    replace hadm := hide hadm
    replace hpl := hide hpl
    replace hlm := hide hlm
    replace hV := hide hV
    go_enter Try.func132, Try.ntmps132
    go_wp2_with fail
    refine hL.out.mono ?_
    rintro e w1 ⟨rfl, m1, hw1⟩
    have hV1 := hide (hV.out.stays (w' := w1) (by rw [hw1]; exact up_drewN (Below.refl _ _)))
    have x0 := hV1.out.fx.c0
    have x2 := hV1.out.fx.c2
    have x4 := hV1.out.fx.c4
    have x5 := hV1.out.fx.c5
    have x6 := hV1.out.fx.c6
    have z4 := cell_lt x4
    clear hL
    replace hw1 := hide hw1
    go_wp2
    go_loopw [5, 18] (fun s5 i wr => ∃ (k : Nat) (b : Int), k ≤ n ∧ i = .int .i64 (k : Int) ∧ s5 = .int .i64 b ∧ Hid ((List.range k).foldl (pstep pl adm) (-1) = b) ∧ Hid (b = -1 ∨ ∃ u : Nat, b = (u : Int) ∧ u < n) ∧ Hid (∃ m, wr = w1.drewN m)) (fun _ i _ => n - (intOf i).toNat)
    case atStart => exact ⟨0, -1, Nat.zero_le _, rfl, rfl, hide rfl, hide (.inl rfl), hide ⟨0, rfl⟩⟩
    case round =>
      obtain ⟨k, b, hk, rfl, rfl, hfo, hbb, hwm⟩ := hrel
      have hcell : Hid (∀ p v, w1.cell? p = some v → wr.cell? p = some v) := hide (by obtain ⟨m, rfl⟩ := hwm.out; exact fun p v h => cu_drewN h)
      have hnext : Hid (∀ k, ∃ m, wr.drewN k = w1.drewN m) := hide (by obtain ⟨m, rfl⟩ := hwm.out; exact fun k => ⟨m + k, by rw [World.drewN_drewN]⟩)
      by_cases hlt : k < n
      · have y0 := hcell.out _ _ x0
        have y2 := hcell.out _ _ x2
        have y4 := hcell.out _ _ x4
        have y5 := hcell.out _ _ x5
        have y6 := hcell.out _ _ x6
        have d1 := hcell.out _ _ (hV1.out.fx.cost.atI k hlt)
        have d2 := hcell.out _ _ (hV1.out.fx.wait.atLB k hlt)
        obtain ⟨hb, ho1, rfl, hhb, d3⟩ := hV1.out.hr.atI k hlt
        have d3 := hcell.out _ _ d3
        have hc1 := hV1.out.hc k hlt
        have hh1 := hV1.out.hh k hlt
        have zw := cell_lt d2
        have zc := cell_lt d1
        have zr := cell_lt d3
        have zs := cell_lt y0
        (try simp only at zr)
        have ik : (0 : Int) ≤ (k : Int) ∧ (k : Int) < (n : Int) := by omega
        have hs2 := hst.out k
        rw [hfo.out, hps.out b k] at hs2
        obtain ⟨c, hcc⟩ : ∃ c, c = s.cost k := ⟨_, rfl⟩
        obtain ⟨g, hg⟩ : ∃ g, g = h k := ⟨_, rfl⟩
        rw [← hcc] at d1 hc1 hs2
        rw [← hg] at d3 hh1 hs2
        have hwr : IntKind.i64.wrap (c + g) = c + g := IntWalk.i64_in _ (by omega)
        have q3 : 0 ≤ (c + g) * rb ∧ (c + g) * rb ≤ 2199023255552000000 := ⟨Int.mul_nonneg (by omega) (by omega), by
          have : (c + g) * rb ≤ 2199023255552 * 1000000 := Int.mul_le_mul (by omega) (by omega) (by omega) (by omega)
          omega⟩
        have w3 : IntKind.i64.wrap ((c + g) * rb) = (c + g) * rb := IntWalk.i64_in _ (by omega)
        replace hcc := hide hcc
        replace hg := hide hg
        clear x0 x2 x4 x5 x6
        by_cases hw : s.wt k = true
        · rw [hw] at d2 hs2
          by_cases had : (c + g) * rb ≤ ra * m
          · by_cases hneg : b < 0
            · have hnew := hide (show (List.range (k + 1)).foldl (pstep pl adm) (-1) = (k : Int) by rw [hs2, if_pos ⟨by simpa using had, .inl hneg⟩])
              replace hw := hide hw
              clear hs2 hfo hbb
              go_wp2
              (refine wp_region_quiet_hid (by kernel_rfl) (by kernel_rfl) (fun wq hst hni => ?_); (repeat (refine hst.out _ _ _ _ (fun K hK => ?_); go_simp; first | (refine hK.out _ ?_; clear hK K) | (apply Exists.intro; refine ⟨fun _ => ?_, hK.out _ ?_⟩; (fail); clear hK K))); refine hni.out _ _ ?_; clear hst hni wq; intro wqq hw'; obtain ⟨nq, hw''⟩ := hw'; subst hw'')
              go_wp2
              go_roundw
              case rel => exact ⟨k + 1, (k : Int), by omega, by go_num, rfl, hnew, hide (.inr ⟨k, rfl, hlt⟩), hide (hnext.out nq)⟩
              case measure => simp [intOf]; omega
            · obtain ⟨u, rfl, hun⟩ : ∃ u : Nat, b = (u : Int) ∧ u < n := by rcases hbb.out with h1 | h1; omega; exact h1
              have hu0 : ((u : Nat) : Int).toNat = u := by simp
              rw [hu0] at hs2
              have hbu := hide (show (u : Int) = -1 ∨ ∃ z : Nat, (u : Int) = (z : Int) ∧ z < n from .inr ⟨u, rfl, hun⟩)
              have hB2 := hide (fun (j : Nat) => hBt.out k u j (wr.drewN j) (by obtain ⟨m2, e2⟩ := hnext.out j; rw [e2, hw1.out]; exact ⟨m1 + m2, World.drewN_drewN _ _ _⟩) hlt hun)
              clear hu0 hneg
              by_cases hpl2 : plLt (pl k) (pl u) = true
              · have hnew := hide (show (List.range (k + 1)).foldl (pstep pl adm) (-1) = (k : Int) by rw [hs2, if_pos ⟨by simpa using had, .inr hpl2⟩])
                rw [hpl2] at hB2
                replace hw := hide hw
                replace hpl2 := hide hpl2
                clear hs2 hfo hbb
                go_wp2
                (refine wp_region_quiet_hid (by kernel_rfl) (by kernel_rfl) (fun wq hst hni => ?_); (repeat (refine hst.out _ _ _ _ (fun K hK => ?_); go_simp; first | (refine hK.out _ ?_; clear hK K) | (apply Exists.intro; refine ⟨fun _ => ?_, hK.out _ ?_⟩; (go_at_call 194; exact Calls.quiet_of (hB2.out _)); clear hK K))); refine hni.out _ _ ?_; clear hst hni wq; intro wqq hw'; obtain ⟨nq, hw''⟩ := hw'; subst hw'')
                go_wp2
                go_roundw
                case rel => exact ⟨k + 1, (k : Int), by omega, by go_num, rfl, hnew, hide (.inr ⟨k, rfl, hlt⟩), hide (hnext.out nq)⟩
                case measure => simp [intOf]; omega
              · have hpl3 : plLt (pl k) (pl u) = false := by simpa using hpl2
                have hnew := hide (show (List.range (k + 1)).foldl (pstep pl adm) (-1) = (u : Int) by rw [hs2, if_neg (by rintro ⟨_, h1 | h1⟩; omega; exact hpl2 h1)])
                rw [hpl3] at hB2
                replace hw := hide hw
                replace hpl2 := hide hpl2
                replace hpl3 := hide hpl3
                clear hs2 hfo hbb
                go_wp2
                (refine wp_region_quiet_hid (by kernel_rfl) (by kernel_rfl) (fun wq hst hni => ?_); (repeat (refine hst.out _ _ _ _ (fun K hK => ?_); go_simp; first | (refine hK.out _ ?_; clear hK K) | (apply Exists.intro; refine ⟨fun _ => ?_, hK.out _ ?_⟩; (go_at_call 194; exact Calls.quiet_of (hB2.out _)); clear hK K))); refine hni.out _ _ ?_; clear hst hni wq; intro wqq hw'; obtain ⟨nq, hw''⟩ := hw'; subst hw'')
                go_wp2
                go_roundw
                case rel => exact ⟨k + 1, (u : Int), by omega, by go_num, rfl, hnew, hbu, hide (hnext.out nq)⟩
                case measure => simp [intOf]; omega
          · have hnew := hide (show (List.range (k + 1)).foldl (pstep pl adm) (-1) = b by rw [hs2, if_neg (fun x => had (by simpa using x.1))])
            have had2 : decide ((c + g) * rb ≤ ra * m) = false := by simpa using had
            have had3 : ((c + g) * rb ≤ ra * m) = False := eq_false had
            replace hw := hide hw
            clear hs2 hfo
            go_wp2
            (refine wp_region_quiet_hid (by kernel_rfl) (by kernel_rfl) (fun wq hst hni => ?_); (repeat (refine hst.out _ _ _ _ (fun K hK => ?_); go_simp; first | (refine hK.out _ ?_; clear hK K) | (apply Exists.intro; refine ⟨fun _ => ?_, hK.out _ ?_⟩; (fail); clear hK K))); refine hni.out _ _ ?_; clear hst hni wq; intro wqq hw'; obtain ⟨nq, hw''⟩ := hw'; subst hw'')
            go_wp2
            go_roundw
            case rel => exact ⟨k + 1, b, by omega, by go_num, rfl, hnew, hbb, hide (hnext.out nq)⟩
            case measure => simp [intOf]; omega
        · have hwf : s.wt k = false := by simpa using hw
          rw [hwf] at d2 hs2
          have hnew := hide (show (List.range (k + 1)).foldl (pstep pl adm) (-1) = b by rw [hs2, if_neg (fun x => by have := x.1; simp at this)])
          replace hwf := hide hwf
          replace hw := hide hw
          clear hs2 hfo
          go_wp2
          (refine wp_region_quiet_hid (by kernel_rfl) (by kernel_rfl) (fun wq hst hni => ?_); (repeat (refine hst.out _ _ _ _ (fun K hK => ?_); go_simp; first | (refine hK.out _ ?_; clear hK K) | (apply Exists.intro; refine ⟨fun _ => ?_, hK.out _ ?_⟩; (fail); clear hK K))); refine hni.out _ _ ?_; clear hst hni wq; intro wqq hw'; obtain ⟨nq, hw''⟩ := hw'; subst hw'')
          go_wp2
          go_roundw
          case rel => exact ⟨k + 1, b, by omega, by go_num, rfl, hnew, hbb, hide (hnext.out nq)⟩
          case measure => simp [intOf]; omega
      · obtain rfl : n = k := by omega
        have hfin := hfo.out
        obtain ⟨v, v1, v2⟩ := hpk.out
        unfold pickF at v1
        rw [hfin] at v1
        replace hfin := hide hfin
        have hans := hide (show PickAns h taste ⟨ra, rb⟩ n s b from .inr ⟨v, v1, v2⟩)
        replace v1 := hide v1
        replace v2 := hide v2
        go_wp2
        go_ret
        obtain ⟨m2, rfl⟩ := hwm.out
        refine ⟨b, rfl, hans.out, ?_⟩
        rw [hw1.out]
        exact ⟨m1 + m2, World.drewN_drewN _ _ _⟩
end Go.Proofs.Ytcehdpeeaogpiaa
