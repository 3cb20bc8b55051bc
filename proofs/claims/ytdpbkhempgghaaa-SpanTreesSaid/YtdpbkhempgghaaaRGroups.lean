/-
  fellref.Groups. Conditions: as each theorem says.
-/
import Derived.Test.YtdpbkhempgghaaaUOf
import Derived.Test.YtdpbkhempgghaaaMk
namespace Go.Proofs.Ytdpbkhempgghaaa
open Go.RowKit
set_option linter.unusedSimpArgs false
set_option linter.unusedVariables false
theorem relax_upd (f : Nat → Nat) (x y : Nat) : upd (upd f x (min (f x) (f y))) y (min (f x) (f y)) = relax f (x, y) := by
  funext v
  simp only [upd, relax]
  by_cases h1 : v = y
  · simp [h1]
  · by_cases h2 : v = x <;> simp [h1, h2]
theorem round_take (l : List P2) (k : Nat) (h : k < l.length) (f : Nat → Nat) : round (natPairs (l.take (k + 1))) f = relax (round (natPairs (l.take k)) f) (l[k].a.toNat, l[k].b.toNat) := by
  rw [natPairs_take l k h]
  simp [round, List.foldl_append]
theorem lst_id (n : Nat) (k : Nat) (hk : k < n) (f : Nat → Nat) (h : ∀ v, v < k → f v = v) : True := trivial
/-- the first k numbers, then zeros -/
def half0 (k : Nat) : Nat → Nat := fun v => if v < k then v else 0
theorem half0_step (k : Nat) : upd (half0 k) k k = half0 (k + 1) := by
  funext v
  simp only [upd, half0]
  by_cases h : v = k
  · simp [h]
  · by_cases h2 : v < k
    · rw [if_neg h, if_pos h2, if_pos (by omega)]
    · rw [if_neg h, if_neg h2, if_neg (by omega)]
theorem half0_zero (n : Nat) : List.replicate n (0 : Int) = Lst n (half0 0) := by
  apply List.ext_getElem
  · simp [Lst]
  · intro i h1 h2; simp [Lst, half0]
theorem half0_all (n : Nat) : Lst n (half0 n) = Lst n (fun v => v) := by
  unfold Lst
  apply List.map_congr_left
  intro v hv
  simp [half0, List.mem_range.1 hv]
theorem rounds_lt {l : List (Nat × Nat)} {t v n : Nat} (h : v < n) : rounds l t v < n := Nat.lt_of_le_of_lt ((rounds_inside l t).1 v) h
set_option maxHeartbeats 1000000 in
theorem rgroups_any (n : Nat) (a : Option Addr) (cap : Nat) (l : List P2) (w : World) (B : Nat) (hB : B ≤ w.heap.size) (hE : Row encP 2 w B a l) (hn : n ≤ 64) (hl : l.length ≤ 600) (hp : ∀ p ∈ l, 0 ≤ p.a ∧ p.a < n ∧ 0 ≤ p.b ∧ p.b < n) :
    Calls Try.prog 148 #[.int .i64 (n : Int), .slice a l.length cap] w fun e w' => ∃ g, e = .returned (.slice (some ⟨g, 0, none⟩) n n) ∧ Own encI 1 3 w' w.heap.size (.slice (some ⟨g, 0, none⟩) n n) (grpOf n l) ∧ Below w.heap.size w w' := by
  replace hE := hide hE
  replace hp := hide hp
  go_enter Try.func148, Try.ntmps148
  go_wp2_with (at_make; (refine wpList_mk (e := 3) (enc := encI) rfl (.tmp 10) 22 rfl (.int .i64 0) 8 (0 : Int) Try.underlying22 info_int rfl rfl (n) ?e11 ?e21 ?e31 (w.heap.size) ?e41 ?_); (case e11 => rfl); (case e21 => omega); (case e31 => unfold maxLen; omega); (case e41 => first | omega | (simp; done) | (simp; omega)); intro w1 own1 hb1 hsz1; replace own1 := hide own1; replace hb1 := hide hb1)
  go_loopw [14] (fun i wr => ∃ (k : Nat), k ≤ n ∧ i = .int .i64 k ∧ Hid (Own encI 1 3 wr w.heap.size (.slice (some ⟨w.heap.size, 0, none⟩) n n) (Lst n (half0 k))) ∧ Hid (Below w.heap.size w wr)) (fun i _ => n - (intOf i).toNat)
  case atStart => exact ⟨0, Nat.zero_le _, rfl, by rw [← half0_zero]; exact own1, hb1⟩
  case round =>
    obtain ⟨k, hk, rfl, own, hb⟩ := hrel
    have hfr := own.out.free
    have hgs := own.out.at_base
    by_cases hlt : k < n
    · have hki : k < (Lst n (half0 k)).length := by rw [lst_len]; exact hlt
      have c0 := own.out.getI k hki
      have own2 := own.out.putI k hki (k : Int)
      rw [lst_set, half0_step] at own2
      replace own2 := hide own2
      go_wp2
      go_roundw
      case rel => exact ⟨k + 1, by omega, by go_num, own2, hide (hb.out.setCell (by simp) _)⟩
      case measure => simp [intOf]; omega
    · obtain rfl : k = n := by omega
      have own0 : Hid (Own encI 1 3 wr w.heap.size (.slice (some ⟨w.heap.size, 0, none⟩) k k) (Lst k (rounds (natPairs l) 0))) := by
        have := own.out
        rw [half0_all] at this
        exact this
      clear own
      go_wp2
      obtain ⟨wo, rfl⟩ : ∃ wo : World, wo = wr := ⟨_, rfl⟩
      go_loopw [8, 9, 23] (fun s8 s9 i wr => ∃ (t : Nat), t ≤ k ∧ i = .int .i64 t ∧ Hid (Own encI 1 3 wr w.heap.size (.slice (some ⟨w.heap.size, 0, none⟩) k k) (Lst k (rounds (natPairs l) t))) ∧ Hid (Below w.heap.size w wr)) (fun _ _ i _ => k - (intOf i).toNat)
      case atStart => exact ⟨0, Nat.zero_le _, rfl, own0, hb⟩
      case round =>
        obtain ⟨t, ht, rfl, own, hbt⟩ := hrel
        clear own0 hfr hgs hb hlt
        by_cases hlt : t < k
        · obtain ⟨wi, rfl⟩ : ∃ wi : World, wi = wr := ⟨_, rfl⟩
          go_wp2
          go_loopw [8, 9, 27] (fun s8 s9 i wr => ∃ (j : Nat), j ≤ l.length ∧ i = .int .i64 j ∧ Hid (Own encI 1 3 wr w.heap.size (.slice (some ⟨w.heap.size, 0, none⟩) k k) (Lst k (round (natPairs (l.take j)) (rounds (natPairs l) t)))) ∧ Hid (Below w.heap.size w wr)) (fun _ _ i _ => l.length - (intOf i).toNat)
          case atStart => exact ⟨0, Nat.zero_le _, rfl, own, hbt⟩
          case round =>
            obtain ⟨j, hj, rfl, own, hbj⟩ := hrel
            have hfr := own.out.free
            have hgs := own.out.at_base
            by_cases hjl : j < l.length
            · obtain ⟨ba, o, rfl, hbB, c0, c1⟩ := hE.out.p2 j hjl
              rw [← hbj.out.cell (by simp; omega)] at c0 c1
              have hrg := hp.out l[j] (List.getElem_mem hjl)
              obtain ⟨x, hx1⟩ := Int.eq_ofNat_of_zero_le hrg.1
              obtain ⟨y, hy1⟩ := Int.eq_ofNat_of_zero_le hrg.2.2.1
              rw [hx1] at c0
              rw [hy1] at c1
              have hxn : x < k := by omega
              have hyn : y < k := by omega
              obtain ⟨f, hf⟩ : ∃ f, f = round (natPairs (l.take j)) (rounds (natPairs l) t) := ⟨_, rfl⟩
              have hstep := hide (show round (natPairs (l.take (j + 1))) (rounds (natPairs l) t) = upd (upd f x (min (f x) (f y))) y (min (f x) (f y)) by
                rw [round_take l j hjl, relax_upd, hf, hx1, hy1]; rfl)
              rw [← hf] at own
              have e0 := own.out.getI x (by rw [lst_len]; exact hxn)
              have e1 := own.out.getI y (by rw [lst_len]; exact hyn)
              rw [lst_get] at e0 e1
              have hfin := hide (show ∀ m : Nat, m = min (f x) (f y) → Own encI 1 3 ((wr.setCell ⟨w.heap.size, x, none⟩ (.int .i64 (m : Int))).setCell ⟨w.heap.size, y, none⟩ (.int .i64 (m : Int))) w.heap.size (.slice (some ⟨w.heap.size, 0, none⟩) k k) (Lst k (upd (upd f x (min (f x) (f y))) y (min (f x) (f y)))) from by
                rintro m rfl
                have h1 := own.out.putI x (by rw [lst_len]; exact hxn) ((min (f x) (f y) : Nat) : Int)
                rw [lst_set] at h1
                have h2 := h1.putI y (by rw [lst_len]; exact hyn) ((min (f x) (f y) : Nat) : Int)
                rw [lst_set] at h2
                exact h2)
              obtain ⟨p, hp1⟩ : ∃ p, p = f x := ⟨_, rfl⟩
              obtain ⟨q, hq1⟩ : ∃ q, q = f y := ⟨_, rfl⟩
              rw [← hp1] at e0
              rw [← hq1] at e1
              have i1 : (0 : Int) ≤ (x : Int) ∧ (x : Int) < (k : Int) := by omega
              have i2 : (0 : Int) ≤ (y : Int) ∧ (y : Int) < (k : Int) := by omega
              replace hp1 := hide hp1
              replace hq1 := hide hq1
              replace hf := hide hf
              clear hrg hx1 hy1
              obtain ⟨z1, hz1⟩ : ∃ z, (wr.setCell ⟨w.heap.size, x, none⟩ (.int .i64 (q : Int))).cell? ⟨w.heap.size, y, none⟩ = some z := ⟨_, (own.out.putI x (by rw [lst_len]; exact hxn) (q : Int)).getI y (by rw [List.length_set, lst_len]; exact hyn)⟩
              obtain ⟨z2, hz2⟩ : ∃ z, (wr.setCell ⟨w.heap.size, x, none⟩ (.int .i64 (p : Int))).cell? ⟨w.heap.size, y, none⟩ = some z := ⟨_, (own.out.putI x (by rw [lst_len]; exact hxn) (p : Int)).getI y (by rw [List.length_set, lst_len]; exact hyn)⟩
              rcases Nat.lt_or_ge q p with hqp | hqp
              all_goals
                go_wp2
                go_region
                go_wp2
                go_region
                go_wp2
                go_roundw
                case rel =>
                  refine ⟨j + 1, by omega, by go_num, ?_, ?_⟩
                  · rw [hstep.out]
                    first
                      | exact hide (Own.alloc (hfin.out q (by have := hp1.out; have := hq1.out; omega)) _)
                      | exact hide (Own.alloc (hfin.out p (by have := hp1.out; have := hq1.out; omega)) _)
                  · have hbj' := hbj.out
                    exact hide (by repeat (first | with_reducible exact Below.refl _ _ | with_reducible assumption | with_reducible refine up_drewN ?_ | with_reducible refine up_drew ?_ | (with_reducible refine up_alloc ?_ ?_; rotate_left; (first | omega | (simp <;> omega) | simp)) | (with_reducible refine up_set ?_ ?_; rotate_left; (first | omega | (simp <;> omega) | simp)) | (with_reducible refine Below.trans ?_ (Below.mono (by with_reducible assumption) ?_); rotate_left; (first | omega | (simp <;> omega) | simp))))
                case measure => simp [intOf]; omega
            · obtain rfl : j = l.length := by omega
              go_wp2
              go_roundw
              case rel =>
                refine ⟨t + 1, by omega, by go_num, ?_, hbj⟩
                have := own.out
                rw [List.take_length] at this
                exact this
              case measure => simp [intOf]; omega
        · obtain rfl : t = k := by omega
          go_wp2
          go_ret
          exact ⟨_, rfl, own.out, hbt.out⟩
end Go.Proofs.Ytdpbkhempgghaaa
