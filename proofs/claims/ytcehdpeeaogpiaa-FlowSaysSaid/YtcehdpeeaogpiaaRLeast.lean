/-
  What the reference's LeastCut returns. Conditions: a right net of costs above 0, of at most 8 places.
-/
import Derived.Test.YtcehdpeeaogpiaaRFlow
import Derived.BigQuiet
import Derived.Deep.QuietTactic
import Derived.Deep.LoopGhost
import Derived.Deep.DeepCutAuto
namespace Go.Proofs.Ytcehdpeeaogpiaa
open Go.RowKit
set_option linter.unusedSimpArgs false
set_option linter.unusedVariables false
set_option maxRecDepth 100000 in
theorem and_one : ∀ m : Nat, m < 256 → bits BinOp.and IntKind.i64 (m : Int) 1 = if m % 2 = 1 then 1 else 0 := by decide
theorem two_le : ∀ n : Nat, n ≤ 8 → 2 ^ n ≤ 256 := by decide
theorem wrap_two (n : Nat) (hn : n ≤ 8) : wrap64 ((2 : Int) ^ n) = ((2 ^ n : Nat) : Int) := by
  have e : ((2 : Int) ^ n) = ((2 ^ n : Nat) : Int) := by push_cast; rfl
  have := two_le n hn
  rw [e]
  generalize 2 ^ n = m at this ⊢
  exact IntWalk.wrap64_in _ (by omega)
theorem own_rowB {e : TypeId} {w : World} {base n c : Nat} {a : Option Addr} {xs : List Bool} (h : Own encB 1 e w base (.slice a n c) xs) : Row encB 1 w w.heap.size a xs := by
  obtain ⟨a', cap, hv, hr, _⟩ := h.row lenB
  simp only [Value.slice.injEq] at hv
  rw [hv.1]
  exact hr
theorem first_allB (n : Nat) (f g : Nat → Bool) : RW n (first n f g) = RW n f := by
  unfold RW
  refine List.map_congr_left fun v hv => ?_
  simp [first, List.mem_range.1 hv]
theorem and_bit {k : Nat} (hk : k < 256) (s : Nat) : bits BinOp.and IntKind.i64 ((k : Int) / 2 ^ s) 1 = if k.testBit s = true then 1 else 0 := by
  have e : (k : Int) / 2 ^ s = ((k / 2 ^ s : Nat) : Int) := by push_cast; rfl
  rw [e, and_one (k / 2 ^ s) (Nat.lt_of_le_of_lt (Nat.div_le_self _ _) hk), Nat.testBit_eq_decide_div_mod_eq]
  simp
/-- what stands for the places in all least cuts, as far as any was found -/
def LcS (z : LC) (n base : Nat) (v : Value) (wr : World) : Prop := (z.b = FAR ∧ v = .slice none 0 0) ∨ (z.b < FAR ∧ ∃ g, v = .slice (some ⟨g, 0, none⟩) n n ∧ Own encB 1 4 wr base (.slice (some ⟨g, 0, none⟩) n n) (RW n z.I))
theorem LcS.keep {z : LC} {n base : Nat} {v : Value} {wr w' : World} {S : Nat → Prop} (h : LcS z n base v wr) (kp : Keep S wr w') (hS : ∀ k, S k → wr.heap.size ≤ k) : LcS z n base v w' := by
  rcases h with h | ⟨h1, g, h2, h3⟩
  · exact .inl h
  · exact .inr ⟨h1, g, h2, kp.own h3 (fun k hk hs => by have := h3.at_base; simp [Value.ownBlock] at hk; have := hS k hs; omega)⟩
theorem LcS.stays {z : LC} {n base : Nat} {v : Value} {wr w' : World} (h : LcS z n base v wr) (hb : Below wr.heap.size wr w') : LcS z n base v w' := h.keep (Keep.new (S := fun _ => False) hb) (fun _ h => h.elim)
set_option maxRecDepth 100000 in
set_option maxHeartbeats 8000000 in
theorem rleast_any (n s t : Nat) (a : Option Addr) (cap : Nat) (es : List Ed) (w : World) (B : Nat) (hB : B ≤ w.heap.size) (hE : Row encE 3 w B a es) (hn1 : 1 ≤ n) (hn : n ≤ 8) (hl : es.length ≤ 600) (hes : Right n es) (hpos : ∀ e ∈ es, 1 ≤ e.c) (hs : s < n) (ht : t < n) :
    Calls Try.prog 32 #[.agg #[.int .i64 (n : Int), .slice a es.length cap], .int .i64 (s : Int), .int .i64 (t : Int)] w fun e w' => ∃ v, e = .returned (.tuple #[.int .i64 (lcRun (nes es) s t (2 ^ n)).b, v]) ∧ LcS (lcRun (nes es) s t (2 ^ n)) n w.heap.size v w' ∧ Below w.heap.size w w' := by
  have hRo := hide (fun (g : Nat) (S : Nat → Bool) (w' : World) (hb : Below w.heap.size w w') (hF : Row encB 1 w' w'.heap.size (some ⟨g, 0, none⟩) (RW n S)) => rroom_any n a (some ⟨g, 0, none⟩) cap n es S w' w'.heap.size (Nat.le_refl _) ((hE.below hb hB).mono (Nat.le_trans hB hb.size)) hF hl hes hpos)
  have hfar := hide (fun S => room_far (pos_edges' hes hpos) (by rw [nes_len]; exact hl) S)
  clear hE hes hpos
  have hN := two_le n hn
  obtain ⟨N, hNe⟩ : ∃ N, N = 2 ^ n := ⟨_, rfl⟩
  have hwr : wrap64 ((2 : Int) ^ n) = (N : Int) := by rw [hNe]; exact wrap_two n hn
  rw [← hNe] at hN ⊢
  replace hNe := hide hNe
  have hn64 : (n : Int) ≤ 64 := by omega
  have hs64 : (s : Int) ≤ 64 := by omega
  have ht64 : (t : Int) ≤ 64 := by omega
  go_enter Try.func32, Try.ntmps32
  go_wp2
  obtain ⟨w1, h1⟩ : ∃ w1, w1 = w.alloc (.cells #[.int .i64 (n : Int), .slice a es.length cap] 24) := ⟨_, rfl⟩
  have hb1 : Below w.heap.size w w1 := by rw [h1]; exact up_alloc (Below.refl _ _) (Nat.le_refl _)
  have c0 : w1.cell? ⟨w.heap.size, 0, none⟩ = some (.int .i64 (n : Int)) := by rw [h1]; simp [go_sem]
  have c1 : w1.cell? ⟨w.heap.size, 1, none⟩ = some (.slice a es.length cap) := by rw [h1]; simp [go_sem]
  have zw : w.heap.size < w1.heap.size := cell_lt c0
  simp only [← h1]
  simp only [hwr]
  clear hwr
  replace h1 := hide h1
  replace hb1 := hide hb1
  go_loopg [8, 9, 18] 300 (fun gk s8 s9 s18 wr => ∃ (k : Nat) (v9 : Value), k ≤ N ∧ s18 = .int .i64 (k : Int) ∧ s8 = .int .i64 (lcRun (nes es) s t k).b ∧ s9 = v9 ∧ Hid (LcS (lcRun (nes es) s t k) n w1.heap.size v9 wr) ∧ Hid (Below w1.heap.size w1 wr) ∧ gk + k = 300)
  case atStart => exact ⟨0, .slice none 0 0, by omega, rfl, rfl, rfl, hide (.inl ⟨rfl, rfl⟩), hide (Below.refl _ _), by omega⟩
  case round =>
    obtain ⟨k, v9, hk, rfl, rfl, rfl, hS, hb, hgk⟩ := hrel
    obtain ⟨z, hz⟩ : ∃ z, z = lcRun (nes es) s t k := ⟨_, rfl⟩
    have hnext := hide (show lcRun (nes es) s t (k + 1) = lcStep (nes es) s t z k by rw [hz]; rfl)
    rw [← hz] at hS ⊢
    by_cases hlt : k < N
    · replace hz := hide hz
      have hand := and_bit (show k < 256 by omega)
      cases hks : k.testBit s with
      | false =>
        have hb0 : bits BinOp.and IntKind.i64 ((k : Int) / 2 ^ s) 1 = 0 := by rw [hand s, hks]; simp
        have hst := hide (show lcStep (nes es) s t z k = z by unfold lcStep; rw [if_pos (.inl hks)])
        replace hks := hide hks
        clear hand
        go_wp2
        go_roundg (gk - 1)
        case measure => omega
        case rel => exact ⟨k + 1, _, by omega, by go_num, by rw [hnext.out, hst.out], rfl, hide (by rw [hnext.out, hst.out]; exact hS.out), hb, by omega⟩
      | true =>
        have hb0 : bits BinOp.and IntKind.i64 ((k : Int) / 2 ^ s) 1 = 1 := by rw [hand s, hks]; simp
        cases hkt : k.testBit t with
        | true =>
          have hb1 : bits BinOp.and IntKind.i64 ((k : Int) / 2 ^ t) 1 = 1 := by rw [hand t, hkt]; simp
          have hst := hide (show lcStep (nes es) s t z k = z by unfold lcStep; rw [if_pos (.inr hkt)])
          replace hks := hide hks
          replace hkt := hide hkt
          clear hand
          go_wp2
          go_roundg (gk - 1)
          case measure => omega
          case rel => exact ⟨k + 1, _, by omega, by go_num, by rw [hnext.out, hst.out], rfl, hide (by rw [hnext.out, hst.out]; exact hS.out), hb, by omega⟩
        | false =>
          have hb2 : bits BinOp.and IntKind.i64 ((k : Int) / 2 ^ t) 1 = 0 := by rw [hand t, hkt]; simp
          have hst := hide (show lcStep (nes es) s t z k = if roomS (nes es) (inB k) < z.b then ⟨roomS (nes es) (inB k), inB k⟩ else if roomS (nes es) (inB k) = z.b then ⟨z.b, fun v => z.I v && inB k v⟩ else z by unfold lcStep; rw [if_neg (by simp [hks, hkt])])
          have hand2 := hide hand
          have k0 := cu_below hb.out c0 zw
          have hzr := hb.out.size
          have zr : w.heap.size < wr.heap.size := by omega
          replace hks := hide hks
          replace hkt := hide hkt
          clear hand
          go_wp2_with (at_make; (refine wpList_mk (e := 4) (enc := encB) rfl (.tmp 34) 52 rfl (.bool false) 1 false Try.underlying52 info_bool rfl rfl (n) ?e12 ?e22 ?e32 (w1.heap.size) ?e42 ?_); (case e12 => rfl); (case e22 => omega); (case e32 => unfold maxLen; omega); (case e42 => first | omega | (simp; done) | (simp; omega)); intro w2 own2 hb2 hsz2; have hO0 : Hid (Own encB 1 4 w2 w1.heap.size (.slice (some ⟨wr.heap.size, 0, none⟩) n n) (RW n (first 0 (inB k) (fun _ => false)))) := hide (by rw [first_zero, ← rw_rep']; exact own2); have hS2 := hide (hS.out.stays hb2); have hB2 := hide (hb.out.trans (hb2.mono hzr)); replace own2 := hide own2; replace hb2 := hide hb2; clear hsz2)
          obtain ⟨g2, hg2⟩ : ∃ g2, g2 = wr.heap.size := ⟨_, rfl⟩
          rw [← hg2] at hO0
          simp only [← hg2]
          have hgz : g2 < w2.heap.size := hO0.out.at_base.2
          have hSg := hide (show ∀ v' w', Keep (fun j => j = g2) w2 w' → LcS z n w1.heap.size v' wr → LcS z n w1.heap.size v' w' from fun v' w' kp hl => by
            rcases hl with h | ⟨h1, g, h2, h3⟩
            · exact .inl h
            · have hgw := h3.at_base
              exact .inr ⟨h1, g, h2, kp.own (h3.stays hb2.out) (fun j hj hj2 => by simp [Value.ownBlock] at hj; have := hg2; omega)⟩)
          have hSr := hide hS.out
          replace hg2 := hide hg2
          clear own2 hS2 k0 hS hb hb2 zr
          go_loopw [38] (fun i wr => ∃ v : Nat, v ≤ n ∧ i = .int .i64 (v : Int) ∧ Hid (Own encB 1 4 wr w1.heap.size (.slice (some ⟨g2, 0, none⟩) n n) (RW n (first v (inB k) (fun _ => false)))) ∧ Hid (Keep (fun j => j = g2) w2 wr)) (fun i _ => n - (intOf i).toNat)
          case atStart => exact ⟨0, Nat.zero_le _, rfl, hO0, hide (Keep.refl _ _)⟩
          case round =>
            clear hO0
            obtain ⟨v, hv, rfl, hO, hk2⟩ := hrel
            by_cases hvn : v < n
            · have d0 := hO.out.atRB v hvn
              have f0 := hO.out.free v
              have z0 := cell_lt d0
              simp only at z0
              have hvv := hand2.out v
              have hv64 : (v : Int) ≤ 64 := by omega
              have iv : (0 : Int) ≤ (v : Int) ∧ (v : Int) < (n : Int) := by omega
              have hO2 := hO.out.setRB v hvn (inB k v)
              rw [first_step v (inB k) (fun _ => false)] at hO2
              obtain ⟨y, hy⟩ : ∃ y, y = inB k v := ⟨_, rfl⟩
              rw [← hy] at hO2
              have hO3 := hide hO2
              have hk3 := hide (hk2.out.setCell (p := ⟨g2, v, none⟩) (.inl rfl) (.bool y))
              have hyb : k.testBit v = y := hy.symm
              rw [hyb] at hvv
              replace hy := hide hy
              replace hyb := hide hyb
              clear hO2
              generalize first v (inB k) (fun _ => false) v = y1 at d0
              cases y with
              | false =>
                simp only [if_false, Bool.false_eq_true] at hvv
                go_wp2
                go_roundw
                case rel => exact ⟨v + 1, by omega, by go_num, hO3, hk3⟩
                case measure => simp [intOf]; omega
              | true =>
                simp only [if_true] at hvv
                go_wp2
                go_roundw
                case rel => exact ⟨v + 1, by omega, by go_num, hO3, hk3⟩
                case measure => simp [intOf]; omega
            · obtain rfl : n = v := by omega
              have hO9 := hO.out
              rw [first_allB] at hO9
              replace hO9 := hide hO9
              have hB3 := hide (hB2.out.trans (hk2.out.toBelow (fun j hj => by have := hO.out.at_base; omega) (by have := hB2.out.size; omega)))
              have hzr2 := hB3.out.size
              have k0 := cu_below hB3.out c0 zw
              have k1 := cu_below hB3.out c1 zw
              have zr2 := cell_lt k0
              simp only at zr2
              have hbw := hide (hb1.out.trans (hB3.out.mono (by omega)))
              have hRoo := hide (hRo.out g2 (inB k) wr hbw.out (own_rowB hO9.out))
              obtain ⟨r, hr⟩ : ∃ r, r = roomS (nes es) (inB k) := ⟨_, rfl⟩
              rw [← hr] at hRoo hst
              have hrf : r < FAR := by rw [hr]; exact hfar.out _
              replace hr := hide hr
              have hSs := hide (hSg.out _ wr hk2.out hSr.out)
              obtain ⟨wo, hwo⟩ : ∃ wo : World, wo = wr := ⟨_, rfl⟩
              simp only [← hwo] at hO9 hB3 hzr2 k0 k1 zr2 hRoo hSs ⊢
              have hSr2 := hSr
              clear hO hk2 hbw hwo hSg hSr hB2 hgz
              go_wp2_with fail
              refine hRoo.out.mono ?_
              rintro e w5 ⟨rfl, hb5⟩
              have hO5 := hide (hO9.out.stays hb5)
              have hS5 := hide (hSs.out.stays hb5)
              have hB5 := hide (hB3.out.trans (hb5.mono hzr2))
              replace hb5 := hide hb5
              clear hRoo hO9 hSs hB3
              by_cases hlt2 : r < z.b
              · have hst2 := hide (show lcRun (nes es) s t (k + 1) = ⟨r, inB k⟩ by rw [hnext.out, hst.out, if_pos hlt2])
                go_wp2
                go_roundg (gk - 1)
                case measure => omega
                case rel => exact ⟨k + 1, .slice (some ⟨g2, 0, none⟩) n n, by omega, by go_num, by rw [hst2.out], rfl, hide (by rw [hst2.out]; exact .inr ⟨hrf, g2, rfl, hO5.out⟩), hB5, by omega⟩
              · by_cases heq : r = z.b
                · have q1 : (r == z.b) = true := by simp [heq]
                  have hst2 := hide (show lcRun (nes es) s t (k + 1) = ⟨z.b, fun v => z.I v && inB k v⟩ by rw [hnext.out, hst.out, if_neg hlt2, if_pos heq])
                  rcases hS5.out with ⟨h1, _⟩ | ⟨hzF, g, rfl, hO6⟩
                  · exfalso; rw [h1] at heq; omega
                  have hgg : g < g2 := by
                    rcases hSr2.out with ⟨_, h⟩ | ⟨_, g', h, h3⟩
                    · cases h
                    · simp only [Value.slice.injEq, Option.some.injEq, Addr.mk.injEq] at h
                      have := h3.at_base
                      have := hg2.out
                      omega
                  have hO7 : Hid (Own encB 1 4 w5 w1.heap.size (.slice (some ⟨g, 0, none⟩) n n) (RW n (first 0 (fun v => z.I v && inB k v) z.I))) := hide (by rw [first_zero]; exact hO6)
                  have hz5 := hB5.out.size
                  replace heq := hide heq
                  clear hO6 hS5
                  go_wp2
                  go_loopw [63] (fun i wr => ∃ v : Nat, v ≤ n ∧ i = .int .i64 (v : Int) ∧ Hid (Own encB 1 4 wr w1.heap.size (.slice (some ⟨g, 0, none⟩) n n) (RW n (first v (fun v => z.I v && inB k v) z.I))) ∧ Hid (Keep (fun j => j = g) w5 wr)) (fun i _ => n - (intOf i).toNat)
                  case atStart => exact ⟨0, Nat.zero_le _, rfl, hO7, hide (Keep.refl _ _)⟩
                  case round =>
                    clear hO7
                    obtain ⟨v, hv, rfl, hO, hk2⟩ := hrel
                    by_cases hvn : v < n
                    · have d0 := hO.out.atRB v hvn
                      have f0 := hO.out.free v
                      have z0 := cell_lt d0
                      have d1 := (hk2.out.own hO5.out (fun j hj hj2 => by simp [Value.ownBlock] at hj; omega)).atRB v hvn
                      have z1 := cell_lt d1
                      simp only at z0 z1
                      have iv : (0 : Int) ≤ (v : Int) ∧ (v : Int) < (n : Int) := by omega
                      rw [show first v (fun v => z.I v && inB k v) z.I v = z.I v by simp [first]] at d0
                      have hO2 := hO.out.setRB v hvn (z.I v && inB k v)
                      rw [first_step v (fun v => z.I v && inB k v) z.I] at hO2
                      obtain ⟨y, hy⟩ : ∃ y, y = inB k v := ⟨_, rfl⟩
                      rw [← hy] at hO2 d1
                      obtain ⟨x, hx⟩ : ∃ x, x = z.I v := ⟨_, rfl⟩
                      rw [← hx] at hO2 d0
                      replace hy := hide hy
                      replace hx := hide hx
                      have hk3 := hide (hk2.out.setCell (p := ⟨g, v, none⟩) (.inl rfl) (.bool (x && y)))
                      replace hO2 := hide hO2
                      cases x with
                      | false =>
                        simp only [Bool.false_and] at hO2 hk3
                        go_wp2
                        go_roundw
                        case rel => exact ⟨v + 1, by omega, by go_num, hO2, hk3⟩
                        case measure => simp [intOf]; omega
                      | true =>
                        simp only [Bool.true_and] at hO2 hk3
                        go_wp2
                        go_roundw
                        case rel => exact ⟨v + 1, by omega, by go_num, hO2, hk3⟩
                        case measure => simp [intOf]; omega
                    · obtain rfl : n = v := by omega
                      have hO8 := hO.out
                      rw [first_allB] at hO8
                      have hgb := hO8.at_base
                      replace hO8 := hide hO8
                      have hB9 := hide (hB5.out.trans (hk2.out.toBelow (fun j hj => by omega) hz5))
                      go_wp2
                      go_roundg (gk - 1)
                      case measure => omega
                      case rel => exact ⟨k + 1, .slice (some ⟨g, 0, none⟩) n n, by omega, by go_num, by rw [hst2.out], rfl, hide (by rw [hst2.out]; exact .inr ⟨hzF, g, rfl, hO8.out⟩), hB9, by omega⟩
                · have q1 : (r == z.b) = false := by simp [heq]
                  have hst2 := hide (show lcRun (nes es) s t (k + 1) = z by rw [hnext.out, hst.out, if_neg hlt2, if_neg heq])
                  replace heq := hide heq
                  go_wp2
                  go_roundg (gk - 1)
                  case measure => omega
                  case rel => exact ⟨k + 1, _, by omega, by go_num, by rw [hst2.out], rfl, hide (by rw [hst2.out]; exact hS5.out), hB5, by omega⟩
    · obtain rfl : N = k := by omega
      have hfin := hide (hb1.out.trans (hb.out.mono (by omega)))
      replace hz := hide hz
      go_wp2
      go_ret2
      rw [← hz.out]
      refine ⟨_, rfl, ?_, hfin.out⟩
      rcases hS.out with h | ⟨h1, g, h2, h3⟩
      · exact .inl h
      · exact .inr ⟨h1, g, h2, h3.base_le (by omega)⟩
end Go.Proofs.Ytcehdpeeaogpiaa
