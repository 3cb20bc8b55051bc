/-
  What heur.fit returns of a table. Conditions: the table reads.
-/
import Derived.Test.YtdpbkhempgghaaaTabR
import Derived.LoopTactic
namespace Go.Proofs.Ytdpbkhempgghaaa
open Go.RowKit
set_option linter.unusedSimpArgs false
set_option linter.unusedVariables false
theorem all_take_succ {α : Type} {l : List α} {p : α → Bool} {k : Nat} (h : k < l.length) (ht : (l.take k).all p = true) (hp : p l[k] = true) : (l.take (k + 1)).all p = true := by
  rw [List.take_succ_eq_append_getElem h, List.all_append, ht, Bool.true_and]
  simpa using hp
theorem all_no {α : Type} {l : List α} {p : α → Bool} {k : Nat} (h : k < l.length) (hp : p l[k] = false) : l.all p = false := by
  cases hh : l.all p with
  | false => rfl
  | true => rw [List.all_eq_true.1 hh _ (List.getElem_mem h)] at hp; cases hp
theorem inF (x : Int) : (decide (0 ≤ x) && decide (x ≤ 1099511627776)) = true ↔ 0 ≤ x ∧ x ≤ 1099511627776 := by simp
set_option maxRecDepth 100000 in
set_option maxHeartbeats 2000000 in
theorem fit_any (n : Nat) (a b : Option Addr) (ca cb : Nat) (fs ts : List SR) (w : World) (B : Nat) (hB : B ≤ w.heap.size) (h1 : Row encR 1 w B a fs) (h2 : Row encR 1 w B b ts) (q1 : ∀ s ∈ fs, QR w B s) (q2 : ∀ s ∈ ts, QR w B s) (lf : fs.length ≤ 1048576) (lt : ts.length ≤ 1048576) (hn : n ≤ 64) :
    Calls Try.prog 78 #[.agg #[.slice a fs.length ca, .slice b ts.length cb], .int .i64 (n : Int)] w fun e w' => e = .returned (.bool (okTab n fs ts)) ∧ Below w.heap.size w w' := by
  obtain ⟨nf, hnf⟩ : ∃ nf, nf = fs.length := ⟨_, rfl⟩
  obtain ⟨nt, hnt⟩ : ∃ nt, nt = ts.length := ⟨_, rfl⟩
  rw [← hnf] at lf ⊢
  rw [← hnt] at lt ⊢
  have hok := hide (show okTab n fs ts = (decide (nf = nt) && decide (nf ≤ 4) && (fs.all fun s => okRow n s.xs) && ts.all fun s => okRow n s.xs) by rw [hnf, hnt]; rfl)
  replace hnf := hide hnf
  replace hnt := hide hnt
  replace h1 := hide h1
  replace h2 := hide h2
  replace q1 := hide q1
  replace q2 := hide q2
  by_cases e1 : nf = nt
  · by_cases e2 : nf ≤ 4
    · have p1 : ((nf : Int) != (nt : Int)) = false := by simp [e1]
      have p2 : decide (4 < (nf : Int)) = false := by simp; omega
      have hok2 := hide (show okTab n fs ts = ((fs.all fun s => okRow n s.xs) && ts.all fun s => okRow n s.xs) by rw [hok.out]; simp [e1, show nt ≤ 4 by omega])
      have hnt2 : nt ≤ 4 := by omega
      replace e1 := hide e1
      have hsel := hide (show ∀ k : Nat, k < 2 → ∃ (ad : Option Addr) (m c : Nat) (ss : List SR), (∀ W, (Instr.index 151 (.agg #[.slice a nf ca, .slice b nt cb]) (.int .i64 (k : Int))).run Try.prog W = .ok (.slice ad m c) W) ∧ ss.length = m ∧ m ≤ 4 ∧ Row encR 1 w B ad ss ∧ (∀ s ∈ ss, QR w B s) ∧ ((k = 0 ∧ ss = fs) ∨ (k = 1 ∧ ss = ts)) from fun k hk => by
        have hk2 : k = 0 ∨ k = 1 := by omega
        rcases hk2 with rfl | rfl
        · exact ⟨a, nf, ca, fs, fun W => by kernel_rfl, hnf.out.symm, e2, h1.out, q1.out, .inl ⟨rfl, rfl⟩⟩
        · exact ⟨b, nt, cb, ts, fun W => by kernel_rfl, hnt.out.symm, hnt2, h2.out, q2.out, .inr ⟨rfl, rfl⟩⟩)
      go_enter Try.func78, Try.ntmps78
      go_wp2
      go_loop [6, 8, 10, 29, 34, 44] (fun _ _ _ i _ _ => ∃ k : Nat, k ≤ 2 ∧ i = .int .i64 k ∧ Hid (1 ≤ k → (fs.all fun s => okRow n s.xs) = true) ∧ Hid (2 ≤ k → (ts.all fun s => okRow n s.xs) = true)) (fun _ _ _ i _ _ => 2 - (intOf i).toNat)
      case atStart => exact ⟨0, by omega, rfl, hide (fun h => by omega), hide (fun h => by omega)⟩
      case round =>
        obtain ⟨k, hk, rfl, g1, g2⟩ := hrel
        by_cases hlt : k < 2
        · obtain ⟨ad, m, c, ss, hix, hm, hm4, hr, hq, hss⟩ := hsel.out k hlt
          have hbad := hide (show (ss.all fun s => okRow n s.xs) = false → okTab n fs ts = false from fun h => by
            rw [hok2.out]
            rcases hss with ⟨_, e⟩ | ⟨_, e⟩ <;> rw [e] at h <;> rw [h] <;> simp)
          have hgood := hide (show (ss.all fun s => okRow n s.xs) = true → (1 ≤ k + 1 → (fs.all fun s => okRow n s.xs) = true) ∧ (2 ≤ k + 1 → (ts.all fun s => okRow n s.xs) = true) from fun h => by
            rcases hss with ⟨e0, e⟩ | ⟨e0, e⟩ <;> rw [e] at h
            · exact ⟨fun _ => h, fun h' => by omega⟩
            · exact ⟨fun _ => g1.out (by omega), fun _ => h⟩)
          have ik : (0 : Int) ≤ (k : Int) ∧ (k : Int) < 2 := by omega
          replace hr := hide hr
          replace hq := hide hq
          replace hm := hide hm
          replace hss := hide hss
          go_wp2
          go_loop [8, 10, 34, 44] (fun _ _ i _ => ∃ j : Nat, j ≤ m ∧ i = .int .i64 j ∧ Hid (((ss.take j).all fun s => okRow n s.xs) = true)) (fun _ _ i _ => m - (intOf i).toNat)
          case atStart => exact ⟨0, Nat.zero_le _, rfl, hide (by simp)⟩
          case round =>
            obtain ⟨j, hj, rfl, hall⟩ := hrel
            by_cases hjm : j < m
            · have hj' : j < ss.length := by have := hm.out; omega
              obtain ⟨b1, o1, rfl, hb1, f1⟩ := hr.out j hj'
              have f1 := f1 0 _ rfl
              have hq1 := hq.out _ (List.getElem_mem hj')
              have hno := hide (all_no (p := fun s => okRow n s.xs) hj')
              have hyes := hide (all_take_succ (p := fun s => okRow n s.xs) hj' hall.out)
              obtain ⟨s, hs⟩ : ∃ s, s = ss[j] := ⟨_, rfl⟩
              rw [← hs] at f1 hq1 hno hyes
              replace hs := hide hs
              obtain ⟨sa, sc, xs⟩ := s
              obtain ⟨z1, z2, z3, z4⟩ := hq1
              simp only at f1 z1 z2 z3 z4 hno hyes
              obtain ⟨p, hp⟩ : ∃ p, p = xs.length := ⟨_, rfl⟩
              rw [← hp] at f1 z1
              replace hp := hide hp
              have f1 : w.cell? ⟨b1, o1 + j, none⟩ = some (.slice sa p sc) := by simpa using f1
              have hb1w : b1 < w.heap.size := by omega
              have ij : (0 : Int) ≤ (j : Int) ∧ (j : Int) < (m : Int) := by omega
              unfold maxLen at z2
              replace z3 := hide z3
              replace z4 := hide z4
              by_cases hpn : p = n
              · have p3 : ((p : Int) != (n : Int)) = false := by simp [hpn]
                have hp64 : p ≤ 64 := by omega
                have hrow := hide (show (∀ x ∈ xs, 0 ≤ x ∧ x ≤ 1099511627776) → okRow n xs = true from fun h => okRow_iff.2 ⟨by rw [← hp.out]; exact hpn, h⟩)
                have hrow2 := hide (show ∀ q (h : q < xs.length), ¬ (0 ≤ xs[q] ∧ xs[q] ≤ 1099511627776) → okRow n xs = false from fun q h hne => by
                  cases hh : okRow n xs with
                  | false => rfl
                  | true => exact absurd ((okRow_iff.1 hh).2 _ (List.getElem_mem h)) hne)
                replace hpn := hide hpn
                go_wp2
                go_loop [10, 44] (fun _ i => ∃ q : Nat, q ≤ p ∧ i = .int .i64 q ∧ Hid (∀ x ∈ xs.take q, 0 ≤ x ∧ x ≤ 1099511627776)) (fun _ i => p - (intOf i).toNat)
                case atStart => exact ⟨0, Nat.zero_le _, rfl, hide (by simp)⟩
                case round =>
                  obtain ⟨q, hq2, rfl, hx⟩ := hrel
                  by_cases hqp : q < p
                  · have hq' : q < xs.length := by have := hp.out; omega
                    obtain ⟨b2, o2, rfl, hb2, f2⟩ := z3.out.int q hq'
                    have hb2w : b2 < w.heap.size := by omega
                    have iq : (0 : Int) ≤ (q : Int) ∧ (q : Int) < (p : Int) := by omega
                    have hr2 := hide (hrow2.out q hq')
                    have htk := hide (List.take_succ_eq_append_getElem hq')
                    generalize xs[q] = x at f2 hr2 htk
                    by_cases hin : 0 ≤ x ∧ x ≤ 1099511627776
                    · have hx2 := hide (show ∀ y ∈ xs.take (q + 1), 0 ≤ y ∧ y ≤ 1099511627776 from fun y hy => by
                        rw [htk.out] at hy
                        rcases List.mem_append.1 hy with hy | hy
                        · exact hx.out y hy
                        · rw [List.mem_singleton.1 hy]; exact hin)
                      obtain ⟨i1, i2⟩ := hin
                      have p4 : decide (x < 0) = false := by simp; omega
                      have p5 : decide (1099511627776 < x) = false := by simp; omega
                      clear hr2 htk
                      go_wp2
                      go_round
                      case rel => exact ⟨q + 1, by omega, by go_num, hx2⟩
                      case measure => simp [intOf]; omega
                    · have hfin := hide (hbad.out (hno.out (hr2.out hin)))
                      by_cases hx0 : x < 0
                      · have p4 : decide (x < 0) = true := by simp [hx0]
                        clear hin hr2 htk
                        go_wp2
                        go_ret
                        exact ⟨ret_bool hfin.out.symm, up_alloc (Below.refl _ _) (Nat.le_refl _)⟩
                      · have p4 : decide (x < 0) = false := by simp; omega
                        have p5 : decide (1099511627776 < x) = true := by simp; omega
                        clear hin hr2 htk
                        go_wp2
                        go_ret
                        exact ⟨ret_bool hfin.out.symm, up_alloc (Below.refl _ _) (Nat.le_refl _)⟩
                  · obtain rfl : p = q := by omega
                    have hx3 := hx.out
                    rw [List.take_of_length_le (by have := hp.out; omega)] at hx3
                    have hnext := hide (hyes.out (hrow.out hx3))
                    go_wp2
                    go_round
                    case rel => exact ⟨j + 1, by omega, by go_num, hnext⟩
                    case measure => simp [intOf]; omega
              · have p3 : ((p : Int) != (n : Int)) = true := by simp; omega
                have hrn : okRow n xs = false := by
                  cases hh : okRow n xs with
                  | false => rfl
                  | true => exact absurd (by rw [hp.out]; exact (okRow_iff.1 hh).1) hpn
                have hfin := hide (hbad.out (hno.out hrn))
                clear hrn hpn
                go_wp2
                go_ret
                exact ⟨ret_bool hfin.out.symm, up_alloc (Below.refl _ _) (Nat.le_refl _)⟩
            · obtain rfl : m = j := by omega
              have ha := hall.out
              rw [List.take_of_length_le (by have := hm.out; omega)] at ha
              obtain ⟨n1, n2⟩ := hgood.out ha
              replace n1 := hide n1
              replace n2 := hide n2
              clear ha
              go_wp2
              go_round
              case rel => exact ⟨k + 1, by omega, by go_num, n1, n2⟩
              case measure => simp [intOf]; omega
        · obtain rfl : k = 2 := by omega
          have hfin := hide (show okTab n fs ts = true by rw [hok2.out, g1.out (by omega), g2.out (by omega)]; rfl)
          go_wp2
          go_ret
          exact ⟨ret_bool hfin.out.symm, up_alloc (Below.refl _ _) (Nat.le_refl _)⟩
    · have p1 : ((nf : Int) != (nt : Int)) = false := by simp [e1]
      have p2 : decide (4 < (nf : Int)) = true := by simp; omega
      have hfin := hide (show okTab n fs ts = false by rw [hok.out]; simp [e1, show ¬ nt ≤ 4 by omega])
      clear e1 e2
      go_enter Try.func78, Try.ntmps78
      go_wp2
      go_ret
      exact ⟨ret_bool hfin.out.symm, up_alloc (Below.refl _ _) (Nat.le_refl _)⟩
  · have p1 : ((nf : Int) != (nt : Int)) = true := by simp; omega
    have hfin := hide (show okTab n fs ts = false by rw [hok.out]; simp [e1])
    clear e1
    go_enter Try.func78, Try.ntmps78
    go_wp2
    go_ret
    exact ⟨ret_bool hfin.out.symm, up_alloc (Below.refl _ _) (Nat.le_refl _)⟩
end Go.Proofs.Ytdpbkhempgghaaa
