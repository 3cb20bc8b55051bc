/-
  What the reference's first answers (key: felllaw.WeighRuns$1): the place before all others. Conditions: what its variables hold.
-/
import Derived.Test.YtcehdpeeaogpiaaStarW
import Derived.Test.YtcehdpeeaogpiaaQuietH
import Derived.BigQuiet
import Derived.Deep.QuietTactic
namespace Go.Proofs.Ytcehdpeeaogpiaa
open Go.RowKit
set_option linter.unusedSimpArgs false
set_option linter.unusedVariables false
/-- a key's function: what it answers -/
def KeyLwW (kb : Nat) (key : Int → Int → Int) (w : World) : Prop := ∀ (c g : Int), 0 ≤ c → c ≤ 10000000 → 0 ≤ g → g ≤ 1099511627776 → Calls Try.prog 59 #[.int .i64 c, .int .i64 g, .pointer (some ⟨kb, 0, none⟩)] w fun e w' => e = .returned (.int .i64 (key c g)) ∧ w' = w
/-- what the reference's variables hold -/
structure FKW (kb : Nat) (bk bm bh mb nm n hc B : Nat) (ha : Option Addr) (cost h : Nat → Int) (w : World) : Prop where
  k1 : w.cell? ⟨bk, 0, none⟩ = some (.func (.func 59) #[] #[.pointer (some ⟨kb, 0, none⟩)])
  k2 : w.cell? ⟨bm, 0, none⟩ = some (.map (some mb))
  k3 : w.cell? ⟨bh, 0, none⟩ = some (.slice ha n hc)
  im : IMap w mb nm (costM n cost)
  hr : Row encI 1 w B ha (LI n h)
set_option maxHeartbeats 1000000 in
theorem s1_anyW (kb : Nat) (bk bm bh mb nm n hc B u : Nat) (ha : Option Addr) (cost h : Nat → Int) (key : Int → Int → Int) (w : World) (hK : FKW kb bk bm bh mb nm n hc B ha cost h w) (hF : ∀ m, KeyLwW kb key (w.drewN m)) (hn : n ≤ 64) (hu : u < n) (hcF : cost u < FAR) (hcu : 0 ≤ cost u ∧ cost u ≤ 10000000) (hh : 0 ≤ h u ∧ h u ≤ 1099511627776) :
    Calls Try.prog 110 #[.int .i64 (u : Int), .pointer (some ⟨bk, 0, none⟩), .pointer (some ⟨bm, 0, none⟩), .pointer (some ⟨bh, 0, none⟩)] w fun e w' => e = .returned (.int .i64 (key (cost u) (h u))) ∧ ∃ m, w' = w.drewN m := by
  have k1 := hK.k1
  have k2 := hK.k2
  have k3 := hK.k3
  obtain ⟨b, o, rfl, hb, d0⟩ := hK.hr.atI u hu
  have hlk := fun m => ((hK.im.drewN m).look 109 Try.underlying109 (x := (u : Int)) (by unfold Bd; omega))
  rw [costM_at hu hcF] at hlk
  simp only [Option.getD_some] at hlk
  have hC := hide (fun m => hF m (cost u) (h u) hcu.1 hcu.2 hh.1 hh.2)
  generalize key (cost u) (h u) = kk at hC ⊢
  generalize cost u = x at hlk hC
  generalize h u = y at d0 hC
  have iu : (0 : Int) ≤ (u : Int) ∧ (u : Int) < (n : Int) := by omega
  clear hK hF hcF hcu hh
  go_enter Try.func110, Try.ntmps110
  go_wp2
  go_quiet (first | (go_at_call 59; exact Calls.quiet_of_same (hC.out _)))
  go_wp2
  go_ret
  exact ⟨rfl, nq, rfl⟩
set_option maxRecDepth 100000 in
set_option maxHeartbeats 20000000 in
theorem rfirst_anyW (kb : Nat) (bk bm bh mb nm n hc B L lc : Nat) (ha la : Option Addr) (l : List Nat) (cost h : Nat → Int) (key : Int → Int → Int) (w : World) (hK : FKW kb bk bm bh mb nm n hc B ha cost h w) (hF : ∀ m, KeyLwW kb key (w.drewN m)) (hn : n ≤ 64) (hLl : L = l.length) (hL : L ≤ 1000) (hrow : Row encI 1 w w.heap.size la (l.map fun v => ((v : Nat) : Int))) (hl : ∀ u ∈ l, u < n ∧ cost u < FAR) (hcu : ∀ u, u < n → cost u < FAR → 0 ≤ cost u ∧ cost u ≤ 10000000) (hh : ∀ u, u < n → 0 ≤ h u ∧ h u ≤ 1099511627776) :
    Calls Try.prog 109 #[.slice la L lc, .func (.func 110) #[] #[.pointer (some ⟨bk, 0, none⟩), .pointer (some ⟨bm, 0, none⟩), .pointer (some ⟨bh, 0, none⟩)], .slice ha n hc] w fun e w' => e = .returned (.int .i64 (firstR (plOf key h cost) l)) ∧ ∃ m, w' = w.drewN m := by
  have hS := hide (fun (u m : Nat) (hu : u < n) (hcF : cost u < FAR) => s1_anyW kb bk bm bh mb nm n hc B u ha cost h key (w.drewN m) ⟨cu_drewN hK.k1, cu_drewN hK.k2, cu_drewN hK.k3, hK.im.drewN m, fun i hi => by
    obtain ⟨b, o, g1, g2, g3⟩ := hK.hr i hi
    exact ⟨b, o, g1, g2, fun j x hx => cu_drewN (g3 j x hx)⟩⟩ (fun k => by rw [World.drewN_drewN]; exact hF _) hn hu hcF (hcu u hu hcF) (hh u hu))
  have hhr := hide hK.hr
  have hst := hide (show ∀ (b : Int) (v : Nat), fstep (plOf key h cost) b v = if b < 0 ∨ plLt (plOf key h cost v) (plOf key h cost b.toNat) = true then (v : Int) else b from fun b v => rfl)
  have hplt := hide (show ∀ u v : Nat, plLt (plOf key h cost u) (plOf key h cost v) = decide (key (cost u) (h u) < key (cost v) (h v) ∨ (key (cost u) (h u) = key (cost v) (h v) ∧ (h u < h v ∨ (h u = h v ∧ (u : Int) < (v : Int))))) from fun u v => rfl)
  obtain ⟨kF, hkF⟩ : ∃ kF : Nat → Int, kF = fun u => key (cost u) (h u) := ⟨_, rfl⟩
  have hS2 := hide (show ∀ (u m : Nat), u < n → cost u < FAR → Calls Try.prog 110 #[.int .i64 (u : Int), .pointer (some ⟨bk, 0, none⟩), .pointer (some ⟨bm, 0, none⟩), .pointer (some ⟨bh, 0, none⟩)] (w.drewN m) fun e w' => e = .returned (.int .i64 (kF u)) ∧ ∃ k, w' = (w.drewN m).drewN k from fun u m hu hc => by rw [hkF]; exact hS.out u m hu hc)
  have hplt2 := hide (show ∀ u v : Nat, plLt (plOf key h cost u) (plOf key h cost v) = decide (kF u < kF v ∨ (kF u = kF v ∧ (h u < h v ∨ (h u = h v ∧ (u : Int) < (v : Int))))) from fun u v => by rw [hkF]; exact hplt.out u v)
  obtain ⟨pl, hpl⟩ : ∃ pl, pl = plOf key h cost := ⟨_, rfl⟩
  rw [← hpl] at hst hplt2 ⊢
  replace hrow := hide hrow
  replace hl := hide hl
  replace hLl := hide hLl
  replace hpl := hide hpl
  replace hkF := hide hkF
  clear hS hK hF hplt hcu hh
  go_enter Try.func109, Try.ntmps109
  go_wp2
  go_loopw [7, 12] (fun s7 i wr => ∃ (j : Nat) (b : Int), j ≤ L ∧ i = .int .i64 (j : Int) ∧ s7 = .int .i64 b ∧ Hid ((l.take j).foldl (fstep pl) (-1) = b) ∧ Hid (b = -1 ∨ ∃ u : Nat, b = (u : Int) ∧ u < n ∧ cost u < FAR) ∧ Hid (∃ m, wr = w.drewN m)) (fun _ i _ => L - (intOf i).toNat)
  case atStart => exact ⟨0, -1, Nat.zero_le _, rfl, rfl, hide rfl, hide (.inl rfl), hide ⟨0, rfl⟩⟩
  case round =>
    obtain ⟨j, b, hj, rfl, rfl, hfo, hbb, hwm⟩ := hrel
    have hcell : Hid (∀ p v, w.cell? p = some v → wr.cell? p = some v) := hide (by obtain ⟨m, rfl⟩ := hwm.out; exact fun p v h => cu_drewN h)
    have hnext : Hid (∀ k, ∃ m, wr.drewN k = w.drewN m) := hide (by obtain ⟨m, rfl⟩ := hwm.out; exact fun k => ⟨m + k, by rw [World.drewN_drewN]⟩)
    have hwsz : w.heap.size = wr.heap.size := by obtain ⟨m, rfl⟩ := hwm.out; rfl
    by_cases hlt : j < L
    · have hjl : j < l.length := by have := hLl.out; omega
      have hjm : j < (l.map fun v => ((v : Nat) : Int)).length := by simpa using hjl
      obtain ⟨lb, lo, rfl, hlb0, f1⟩ := hrow.out.int j hjm
      simp only [List.getElem_map] at f1
      have hlb : lb < wr.heap.size := by omega
      obtain ⟨hvn, hvc⟩ := hl.out l[j] (List.getElem_mem hjl)
      have hfs := hide (show (l.take (j + 1)).foldl (fstep pl) (-1) = fstep pl b l[j] by rw [List.take_succ_eq_append_getElem hjl, List.foldl_append, hfo.out]; rfl)
      obtain ⟨v, hv⟩ : ∃ v, v = l[j] := ⟨_, rfl⟩
      rw [← hv] at f1 hvn hvc hfs
      rw [hst.out b v] at hfs
      replace hv := hide hv
      obtain ⟨hb1, ho1, rfl, hhb, y1⟩ := hhr.out.atI v hvn
      replace f1 := hcell.out _ _ f1
      replace y1 := hcell.out _ _ y1
      have ij : (0 : Int) ≤ (j : Int) ∧ (j : Int) < (L : Int) := by omega
      have iv : (0 : Int) ≤ (v : Int) ∧ (v : Int) < (n : Int) := by omega
      by_cases hneg : b < 0
      · have hnew := hide (show (l.take (j + 1)).foldl (fstep pl) (-1) = (v : Int) by rw [hfs.out, if_pos (.inl hneg)])
        clear hfs hfo hbb
        go_wp2
        (refine wp_region_quiet_hid (by kernel_rfl) (by kernel_rfl) (fun wq hst hni => ?_); (repeat (refine hst.out _ _ _ _ (fun K hK => ?_); go_simp; first | (refine hK.out _ ?_; clear hK K) | (apply Exists.intro; refine ⟨fun _ => ?_, hK.out _ ?_⟩; (fail); clear hK K))); refine hni.out _ _ ?_; clear hst hni wq; intro wqq hw'; obtain ⟨nq, hw''⟩ := hw'; subst hw'')
        go_wp2
        go_roundw
        case rel => exact ⟨j + 1, (v : Int), by omega, by go_num, rfl, hnew, hide (.inr ⟨v, rfl, hvn, hvc⟩), hide (hnext.out nq)⟩
        case measure => simp [intOf]; omega
      · obtain ⟨u, rfl, hun, huc⟩ : ∃ u : Nat, b = (u : Int) ∧ u < n ∧ cost u < FAR := by rcases hbb.out with h1 | h1; omega; exact h1
        obtain ⟨hb2, ho2, he2, hhb2, y2⟩ := hhr.out.atI u hun
        simp only [Option.some.injEq, Addr.mk.injEq] at he2
        obtain ⟨rfl, rfl, -⟩ := he2
        replace y2 := hcell.out _ _ y2
        have iu : (0 : Int) ≤ (u : Int) ∧ (u : Int) < (n : Int) := by omega
        have hcond := hplt2.out v u
        have hu0 : ((u : Nat) : Int).toNat = u := by simp
        rw [hu0, hcond] at hfs
        have hnn : ((u : Int) < 0) = False := by simp
        obtain ⟨y1', hy1⟩ : ∃ y, y = h v := ⟨_, rfl⟩
        obtain ⟨y2', hy2⟩ : ∃ y, y = h u := ⟨_, rfl⟩
        rw [← hy1] at y1 hfs
        rw [← hy2] at y2 hfs
        have hS3 : Hid (∀ (x k : Nat), x < n → cost x < FAR → Calls Try.prog 110 #[.int .i64 (x : Int), .pointer (some ⟨bk, 0, none⟩), .pointer (some ⟨bm, 0, none⟩), .pointer (some ⟨bh, 0, none⟩)] (wr.drewN k) fun e w' => e = .returned (.int .i64 (kF x)) ∧ ∃ q, w' = (wr.drewN k).drewN q) := hide (fun x k h1 h2 => by
          obtain ⟨m, hm⟩ := hnext.out k
          rw [hm]
          exact hS2.out x m h1 h2)
        have hyes := hide (fun (hc : kF v < kF u ∨ (kF v = kF u ∧ (y1' < y2' ∨ (y1' = y2' ∧ (v : Int) < (u : Int))))) => (show (l.take (j + 1)).foldl (fstep pl) (-1) = (v : Int) by rw [hfs.out, if_pos (.inr (by simpa using hc))]))
        have hno := hide (fun (hc : ¬ (kF v < kF u ∨ (kF v = kF u ∧ (y1' < y2' ∨ (y1' = y2' ∧ (v : Int) < (u : Int)))))) => (show (l.take (j + 1)).foldl (fstep pl) (-1) = (u : Int) by rw [hfs.out, if_neg (by intro h1; rcases h1 with h1 | h1; omega; exact hc (by simpa using h1))]))
        have hbu := hide (show (u : Int) = -1 ∨ ∃ z : Nat, (u : Int) = (z : Int) ∧ z < n ∧ cost z < FAR from .inr ⟨u, rfl, hun, huc⟩)
        have hbv := hide (show (v : Int) = -1 ∨ ∃ z : Nat, (v : Int) = (z : Int) ∧ z < n ∧ cost z < FAR from .inr ⟨v, rfl, hvn, hvc⟩)
        replace hy1 := hide hy1
        replace hy2 := hide hy2
        clear hfs hfo hbb hcond hu0 hneg
        by_cases h1 : kF v < kF u
        · have hnew := hide (hyes.out (.inl h1))
          go_wp2
          (refine wp_region_quiet_hid (by kernel_rfl) (by kernel_rfl) (fun wq hst hni => ?_); (repeat (refine hst.out _ _ _ _ (fun K hK => ?_); go_simp; first | (refine hK.out _ ?_; clear hK K) | (apply Exists.intro; refine ⟨fun _ => ?_, hK.out _ ?_⟩; (go_at_call 110; exact Calls.quiet_of (hS3.out _ _ (by assumption) (by assumption))); clear hK K))); refine hni.out _ _ ?_; clear hst hni wq; intro wqq hw'; obtain ⟨nq, hw''⟩ := hw'; subst hw'')
          go_wp2
          go_roundw
          case rel => exact ⟨j + 1, (v : Int), by omega, by go_num, rfl, hnew, hbv, hide (hnext.out nq)⟩
          case measure => simp [intOf]; omega
        · by_cases h2 : kF v = kF u
          · have q2 : (kF v == kF u) = true := by simpa using h2
            replace h2 := hide h2
            by_cases h3 : y1' < y2'
            · have hnew := hide (hyes.out (.inr ⟨h2.out, .inl h3⟩))
              go_wp2
              (refine wp_region_quiet_hid (by kernel_rfl) (by kernel_rfl) (fun wq hst hni => ?_); (repeat (refine hst.out _ _ _ _ (fun K hK => ?_); go_simp; first | (refine hK.out _ ?_; clear hK K) | (apply Exists.intro; refine ⟨fun _ => ?_, hK.out _ ?_⟩; (go_at_call 110; exact Calls.quiet_of (hS3.out _ _ (by assumption) (by assumption))); clear hK K))); refine hni.out _ _ ?_; clear hst hni wq; intro wqq hw'; obtain ⟨nq, hw''⟩ := hw'; subst hw'')
              go_wp2
              go_roundw
              case rel => exact ⟨j + 1, (v : Int), by omega, by go_num, rfl, hnew, hbv, hide (hnext.out nq)⟩
              case measure => simp [intOf]; omega
            · by_cases h4 : y1' = y2'
              · subst h4
                have q4 : (y1' == y1') = true := by simp
                by_cases h5 : (v : Int) < (u : Int)
                · have hnew := hide (hyes.out (.inr ⟨h2.out, .inr ⟨rfl, h5⟩⟩))
                  go_wp2
                  (refine wp_region_quiet_hid (by kernel_rfl) (by kernel_rfl) (fun wq hst hni => ?_); (repeat (refine hst.out _ _ _ _ (fun K hK => ?_); go_simp; first | (refine hK.out _ ?_; clear hK K) | (apply Exists.intro; refine ⟨fun _ => ?_, hK.out _ ?_⟩; (go_at_call 110; exact Calls.quiet_of (hS3.out _ _ (by assumption) (by assumption))); clear hK K))); refine hni.out _ _ ?_; clear hst hni wq; intro wqq hw'; obtain ⟨nq, hw''⟩ := hw'; subst hw'')
                  go_wp2
                  go_roundw
                  case rel => exact ⟨j + 1, (v : Int), by omega, by go_num, rfl, hnew, hbv, hide (hnext.out nq)⟩
                  case measure => simp [intOf]; omega
                · have hnew := hide (hno.out (by omega))
                  go_wp2
                  (refine wp_region_quiet_hid (by kernel_rfl) (by kernel_rfl) (fun wq hst hni => ?_); (repeat (refine hst.out _ _ _ _ (fun K hK => ?_); go_simp; first | (refine hK.out _ ?_; clear hK K) | (apply Exists.intro; refine ⟨fun _ => ?_, hK.out _ ?_⟩; (go_at_call 110; exact Calls.quiet_of (hS3.out _ _ (by assumption) (by assumption))); clear hK K))); refine hni.out _ _ ?_; clear hst hni wq; intro wqq hw'; obtain ⟨nq, hw''⟩ := hw'; subst hw'')
                  go_wp2
                  go_roundw
                  case rel => exact ⟨j + 1, (u : Int), by omega, by go_num, rfl, hnew, hbu, hide (hnext.out nq)⟩
                  case measure => simp [intOf]; omega
              · have q4 : (y1' == y2') = false := by simpa using h4
                have hnew := hide (hno.out (by omega))
                replace h4 := hide h4
                go_wp2
                (refine wp_region_quiet_hid (by kernel_rfl) (by kernel_rfl) (fun wq hst hni => ?_); (repeat (refine hst.out _ _ _ _ (fun K hK => ?_); go_simp; first | (refine hK.out _ ?_; clear hK K) | (apply Exists.intro; refine ⟨fun _ => ?_, hK.out _ ?_⟩; (go_at_call 110; exact Calls.quiet_of (hS3.out _ _ (by assumption) (by assumption))); clear hK K))); refine hni.out _ _ ?_; clear hst hni wq; intro wqq hw'; obtain ⟨nq, hw''⟩ := hw'; subst hw'')
                go_wp2
                go_roundw
                case rel => exact ⟨j + 1, (u : Int), by omega, by go_num, rfl, hnew, hbu, hide (hnext.out nq)⟩
                case measure => simp [intOf]; omega
          · have q2 : (kF v == kF u) = false := by simpa using h2
            have hnew := hide (hno.out (by omega))
            replace h2 := hide h2
            go_wp2
            (refine wp_region_quiet_hid (by kernel_rfl) (by kernel_rfl) (fun wq hst hni => ?_); (repeat (refine hst.out _ _ _ _ (fun K hK => ?_); go_simp; first | (refine hK.out _ ?_; clear hK K) | (apply Exists.intro; refine ⟨fun _ => ?_, hK.out _ ?_⟩; (go_at_call 110; exact Calls.quiet_of (hS3.out _ _ (by assumption) (by assumption))); clear hK K))); refine hni.out _ _ ?_; clear hst hni wq; intro wqq hw'; obtain ⟨nq, hw''⟩ := hw'; subst hw'')
            go_wp2
            go_roundw
            case rel => exact ⟨j + 1, (u : Int), by omega, by go_num, rfl, hnew, hbu, hide (hnext.out nq)⟩
            case measure => simp [intOf]; omega
    · obtain rfl : L = j := by omega
      have hfin := hide (show firstR pl l = b by unfold firstR; rw [← hfo.out, List.take_of_length_le (by have := hLl.out; omega)])
      go_wp2
      go_ret
      rw [hfin.out]
      exact ⟨rfl, hwm.out⟩
end Go.Proofs.Ytcehdpeeaogpiaa
