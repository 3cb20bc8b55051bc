/-
  What floyd.closed does for floyd.Wide: from all to all, place by place between. Conditions: a right net.
-/
import Derived.Test.YtcehdpeeaogpiaaPlainB
import Derived.Test.YtcehdpeeaogpiaaBase
import Derived.BigQuiet
import Derived.Deep.QuietTactic
import Derived.WalkSpells
import Derived.WalkLawsBesides
import Derived.ChangeAlike
import Derived.RegionTactic
import Derived.Deep.RegionHeld3
import Derived.Deep.DrawnRows
import Derived.Test.YtcehdpeeaogpiaaHeldEnd
namespace Go.Proofs.Ytcehdpeeaogpiaa
open Go.RowKit
set_option linter.unusedSimpArgs false
set_option linter.unusedVariables false
set_option maxHeartbeats 400000 in
theorem orW_any (a b : Int) (w : World) : Calls Try.prog 81 #[.int .i64 a, .int .i64 b] w fun e w' => e = .returned (.int .i64 (max a b)) ∧ w = w' := by
  rcases Int.lt_or_le a b with h | h
  · have hm := hide (show max a b = b by omega)
    go_enter Try.func81, Try.ntmps81
    go_wp2
    go_ret
    exact ⟨ret_int (by first | rw [hm.out] | omega), rfl⟩
  · have hm := hide (show max a b = a by omega)
    go_enter Try.func81, Try.ntmps81
    go_wp2
    go_ret
    exact ⟨ret_int (by first | rw [hm.out] | omega), rfl⟩
set_option maxHeartbeats 400000 in
theorem thW_any (a b : Int) (w : World) : Calls Try.prog 82 #[.int .i64 a, .int .i64 b] w fun e w' => e = .returned (.int .i64 (min a b)) ∧ w = w' := by
  rcases Int.lt_or_le b a with h | h
  · have hm := hide (show min a b = b by omega)
    go_enter Try.func82, Try.ntmps82
    go_wp2
    go_ret
    exact ⟨ret_int (by first | rw [hm.out] | omega), rfl⟩
  · have hm := hide (show min a b = a by omega)
    go_enter Try.func82, Try.ntmps82
    go_wp2
    go_ret
    exact ⟨ret_int (by first | rw [hm.out] | omega), rfl⟩
set_option maxHeartbeats 400000 in
theorem edW_any (x y z : Int) (w : World) : Calls Try.prog 84 #[.agg #[.int .i64 x, .int .i64 y, .int .i64 z]] w fun e w' => e = .returned (.int .i64 z) ∧ Below w.heap.size w w' := by
  go_enter Try.func84, Try.ntmps84
  go_wp2
  go_ret
  exact ⟨rfl, (by repeat (first | with_reducible exact Below.refl _ _ | with_reducible assumption | with_reducible refine up_drewN ?_ | with_reducible refine up_drew ?_ | (with_reducible refine up_alloc ?_ ?_; rotate_left; (first | omega | (simp <;> omega) | simp)) | (with_reducible refine up_set ?_ ?_; rotate_left; (first | omega | (simp <;> omega) | simp)) | (with_reducible refine Below.trans ?_ (Below.mono (by with_reducible assumption) ?_); rotate_left; (first | omega | (simp <;> omega) | simp))))⟩

/-- what holds while closed runs for Wide: k rows are made, the table is m -/
def WInv (w : World) (n : Nat) (a : Option Addr) (len cap k : Nat) (m : Nat → Nat → Int) (wr : World) : Prop :=
  (wr.cell? ⟨w.heap.size, 0, none⟩ = some (.int .i64 (n : Int)) ∧ wr.cell? ⟨w.heap.size, 1, none⟩ = some (.slice a len cap)) ∧
  (wr.cell? ⟨w.heap.size + 1, 0, none⟩ = some (.int .i64 ((-1099511627776))) ∧ wr.cell? ⟨w.heap.size + 1, 1, none⟩ = some (.int .i64 (1099511627776)) ∧ wr.cell? ⟨w.heap.size + 1, 2, none⟩ = some (.func (.func 82) #[] #[]) ∧ wr.cell? ⟨w.heap.size + 1, 3, none⟩ = some (.func (.func 81) #[] #[])) ∧
  Own2 encI 1 29 3 wr (w.heap.size + 1 + 1) (.slice (some ⟨w.heap.size + 1 + 1, 0, none⟩) n n) (MXp n k m) ∧ Below w.heap.size w wr
section
variable {w : World} {n : Nat} {a : Option Addr} {len cap k : Nat} {m : Nat → Nat → Int} {wr : World}
theorem WInv.later (h : WInv w n a len cap k m wr) {wr' : World} (hb : Below wr.heap.size wr wr') : WInv w n a len cap k m wr' :=
  ⟨⟨(hb.cell (cell_lt h.1.1)).trans h.1.1, (hb.cell (cell_lt h.1.2)).trans h.1.2⟩, ⟨(hb.cell (cell_lt h.2.1.1)).trans h.2.1.1, (hb.cell (cell_lt h.2.1.2.1)).trans h.2.1.2.1, (hb.cell (cell_lt h.2.1.2.2.1)).trans h.2.1.2.2.1, (hb.cell (cell_lt h.2.1.2.2.2)).trans h.2.1.2.2.2⟩, h.2.2.1.below hb (Nat.le_refl _), h.2.2.2.trans (hb.mono h.2.2.2.size)⟩
theorem WInv.alloc (h : WInv w n a len cap k m wr) (o : Obj) : WInv w n a len cap k m (wr.alloc o) := h.later ((Below.refl _ _).alloc (Nat.le_refl _) o)
theorem WInv.drew (h : WInv w n a len cap k m wr) : WInv w n a len cap k m wr.drew := ⟨h.1, h.2.1, h.2.2.1, h.2.2.2.drew⟩
theorem WInv.drewN (h : WInv w n a len cap k m wr) (j : Nat) : WInv w n a len cap k m (wr.drewN j) := ⟨h.1, h.2.1, h.2.2.1, up_drewN h.2.2.2⟩
theorem WInv.rowAt (h : WInv w n a len cap k m wr) (i : Nat) (hi : i < k) (hin : i < n) :
    ∃ gi ci, wr.cell? ⟨w.heap.size + 1 + 1, i, none⟩ = some (.slice (some ⟨gi, 0, none⟩) n ci) ∧ (∀ j, wr.frozen? ⟨gi, j, none⟩ = false) ∧ w.heap.size + 1 + 1 ≤ gi ∧ gi < wr.heap.size ∧ gi ≠ w.heap.size + 1 + 1 ∧ ∀ j, j < n → wr.cell? ⟨gi, j, none⟩ = some (.int .i64 (m i j)) := by
  obtain ⟨gi, ci, h1, h2, h3, h4, h5, h6⟩ := h.2.2.1.rowAt (by decide) lenI i hi hin
  exact ⟨gi, ci, h1, h2, h3, h4, h5, fun j hj => h6 j hj _ rfl⟩
theorem WInv.set (h : WInv w n a len cap k m wr) (i j : Nat) (hi : i < k) (hin : i < n) (hj : j < n) {gi ci : Nat} (hc : wr.cell? ⟨w.heap.size + 1 + 1, i, none⟩ = some (.slice (some ⟨gi, 0, none⟩) n ci)) (hg : w.heap.size + 1 + 1 ≤ gi) (x : Int) : WInv w n a len cap k (upm m i j x) (wr.setCell ⟨gi, j, none⟩ (.int .i64 (x))) := by
  have hl : i < (MXp n k m).length := by rw [mxp_len]; exact hin
  have hr : j < ((MXp n k m)[i]).length := by rw [mxp_get _ _ _ _ hi, rw_len]; exact hj
  have h5 := h.2.2.1.setAt (by decide) lenI i hl j hr hc x (.int .i64 (x)) rfl
  rw [mxp_put _ _ _ _ _ hi] at h5
  exact ⟨⟨cu_set h.1.1 (by simp; omega), cu_set h.1.2 (by simp; omega)⟩, ⟨cu_set h.2.1.1 (by simp; omega), cu_set h.2.1.2.1 (by simp; omega), cu_set h.2.1.2.2.1 (by simp; omega), cu_set h.2.1.2.2.2 (by simp; omega)⟩, h5, h.2.2.2.setCell (by simp; omega) _⟩
/-- one more row made -/
theorem WInv.row (h : WInv w n a len cap k m wr) (hk : k < n) {w1 : World} (hb : Below wr.heap.size wr w1) (own : Own encI 1 3 w1 wr.heap.size (.slice (some ⟨wr.heap.size, 0, none⟩) n n) (List.replicate n 0)) :
    WInv w n a len cap (k + 1) (rowup m k (fun _ => 0)) (w1.setCell ⟨w.heap.size + 1 + 1, k, none⟩ (.slice (some ⟨wr.heap.size, 0, none⟩) n n)) := by
  have hl : k < (MXp n k m).length := by rw [mxp_len]; exact hk
  obtain ⟨av, cv, h1, h2, _⟩ := h.2.2.1.at k hl
  have hlt : w.heap.size + 1 + 1 < wr.heap.size := by have := cell_lt h1; simpa using this
  rw [rw_rep] at own
  have h5 := h.2.2.1.put (by decide) k hl h1 (w' := w1) ⟨hb.os, hb.tape, hb.output, hb.size, fun i hi _ => hb.block i hi⟩ (own.base_le (by omega)) (by
    intro j hj
    simp [Value.ownBlock] at hj
    exact .inr (by omega))
  rw [mxp_row] at h5
  have h6 := h.later hb
  exact ⟨⟨cu_set h6.1.1 (by simp <;> omega), cu_set h6.1.2 (by simp <;> omega)⟩, ⟨cu_set h6.2.1.1 (by simp <;> omega), cu_set h6.2.1.2.1 (by simp <;> omega), cu_set h6.2.1.2.2.1 (by simp <;> omega), cu_set h6.2.1.2.2.2 (by simp <;> omega)⟩, h5, h6.2.2.2.setCell (by simp <;> omega) _⟩
theorem WInv.congr (h : WInv w n a len cap k m wr) {m' : Nat → Nat → Int} (e : ∀ i j, i < k → j < n → m i j = m' i j) : WInv w n a len cap k m' wr := ⟨h.1, h.2.1, by rw [← mxp_congr e]; exact h.2.2.1, h.2.2.2⟩
theorem WInv.emptyRow (h : WInv w n a len cap k m wr) (hk : k < n) : ∃ av cv, wr.cell? ⟨w.heap.size + 1 + 1, k, none⟩ = some (.slice av 0 cv) ∧ wr.frozen? ⟨w.heap.size + 1 + 1, k, none⟩ = false ∧ w.heap.size + 1 + 1 < wr.heap.size := by
  have hl : k < (MXp n k m).length := by rw [mxp_len]; exact hk
  obtain ⟨av, cv, h1, h2, h3⟩ := h.2.2.1.at k hl
  have e : (MXp n k m)[k].length = 0 := by simp [MXp]
  rw [e] at h1
  exact ⟨av, cv, h1, h3 k, by have := cell_lt h1; simpa using this⟩
end
def Wtab (n : Nat) (es : List NE) : Nat → Nat → Int := wclosed max min (-1099511627776) 1099511627776 (fun e => e.c) n es
set_option maxRecDepth 100000 in
set_option maxHeartbeats 4000000 in
theorem closed_W (n : Nat) (a : Option Addr) (cap : Nat) (es : List Ed) (w : World) (B : Nat) (hB : B ≤ w.heap.size) (hE : Row encE 3 w B a es) (hn1 : 1 ≤ n) (hn : n ≤ 64) (hl : es.length ≤ 600) (hes : Right n es) :
    Calls Try.prog 83 #[.agg #[.int .i64 (n : Int), .slice a es.length cap], .agg #[.int .i64 ((-1099511627776)), .int .i64 (1099511627776), .func (.func 82) #[] #[], .func (.func 81) #[] #[]], .func (.func 84) #[] #[]] w
      fun e w' => ∃ g, e = .returned (.slice (some ⟨g, 0, none⟩) n n) ∧ Own2 encI 1 29 3 w' w.heap.size (.slice (some ⟨g, 0, none⟩) n n) (MXp n n (Wtab n (nes es))) ∧ Below w.heap.size w w' := by
  replace hE := hide hE
  replace hes := hide hes
  go_enter Try.func83, Try.ntmps83
  go_wp2_with (at_make; (refine wpList_mk (e := 29) (enc := encV) rfl (.tmp 16) 25 rfl (.slice none 0 0) 24 (Value.slice none 0 0) Try.underlying25 info_row rfl rfl (n) ?e11 ?e21 ?e31 (w.heap.size + 1 + 1) ?e41 ?_); (case e11 => rfl); (case e21 => omega); (case e31 => unfold maxLen; omega); (case e41 => first | omega | (simp; done) | (simp; omega)); intro w1 own1 hb1 hsz1; replace own1 := hide own1; replace hb1 := hide hb1)
  have h0 : Hid (WInv w n a es.length cap 0 (wstart (-1099511627776) 1099511627776) w1) := by
    have hb := hb1.out
    have own := own1.out
    have hs0 : ((w.alloc (.cells #[.int .i64 (n : Int), .slice a es.length cap] 24)).alloc (.cells #[.int .i64 ((-1099511627776)), .int .i64 (1099511627776), .func (.func 82) #[] #[], .func (.func 81) #[] #[]] 129)).heap.size = w.heap.size + 1 + 1 := by simp
    rw [hs0] at own
    refine ⟨⟨(hb.cell (by simp <;> omega)).trans ?_, (hb.cell (by simp <;> omega)).trans ?_⟩, ⟨(hb.cell (by simp <;> omega)).trans ?_, (hb.cell (by simp <;> omega)).trans ?_, (hb.cell (by simp <;> omega)).trans ?_, (hb.cell (by simp <;> omega)).trans ?_⟩, by rw [mxp_zero]; exact own2_rep own, ((by repeat (first | with_reducible exact Below.refl _ _ | with_reducible assumption | with_reducible refine up_drewN ?_ | with_reducible refine up_drew ?_ | (with_reducible refine up_alloc ?_ ?_; rotate_left; (first | omega | (simp <;> omega) | simp)) | (with_reducible refine up_set ?_ ?_; rotate_left; (first | omega | (simp <;> omega) | simp)) | (with_reducible refine Below.trans ?_ (Below.mono (by with_reducible assumption) ?_); rotate_left; (first | omega | (simp <;> omega) | simp)))) : Below w.heap.size w _).trans (hb.mono (by simp; omega))⟩
    all_goals simp [go_sem]
  go_loopw [8, 9, 20, 34] (fun _ _ i _ wr => ∃ (k : Nat), k ≤ n ∧ i = .int .i64 k ∧ Hid (WInv w n a es.length cap k (wstart (-1099511627776) 1099511627776) wr)) (fun _ _ i _ _ => n - (intOf i).toNat)
  case atStart => exact ⟨0, Nat.zero_le _, rfl, h0⟩
  case round =>
    obtain ⟨k, hk, rfl, hI⟩ := hrel
    clear h0
    by_cases hlt : k < n
    · obtain ⟨wi, rfl⟩ : ∃ wi : World, wi = wr := ⟨_, rfl⟩
      obtain ⟨av, cv, c0, f0, z0⟩ := hI.out.emptyRow hlt
      have c1 := hI.out.1.1
      have z1 : w.heap.size < wi.heap.size := by omega
      have i1 : (0 : Int) ≤ (k : Int) ∧ (k : Int) < (n : Int) := by omega
      go_wp2_with (at_make; (refine wpList_mk (e := 3) (enc := encI) rfl (.tmp 26) 29 rfl (.int .i64 0) 8 (0 : Int) Try.underlying29 info_int rfl rfl (n) ?e12 ?e22 ?e32 (wi.heap.size) ?e42 ?_); (case e12 => rfl); (case e22 => omega); (case e32 => unfold maxLen; omega); (case e42 => first | omega | (simp; done) | (simp; omega)); intro w2 own2 hb2 hsz2; obtain ⟨hc2, hf2⟩ := bcell hb2; replace own2 := hide own2; replace hb2 := hide hb2)
      have hI2 := hide (hI.out.row hlt hb2.out own2.out)
      obtain ⟨gi, ci, r0, r1, r2, r3, r4, r5⟩ := hI2.out.rowAt k (by omega) hlt
      replace r5 := hide r5
      replace r1 := hide r1
      go_wp2
      clear c0 f0 z0 c1 z1 hc2 hf2 r0 r2 r3 r4 i1
      obtain ⟨wj, hwj⟩ : ∃ wj : World, wj = w2.setCell ⟨w.heap.size + 1 + 1, k, none⟩ (.slice (some ⟨wi.heap.size, 0, none⟩) n n) := ⟨_, rfl⟩
      rw [← hwj] at hI2
      try simp only [← hwj]
      replace hwj := hide hwj
      go_loopw [9, 34] (fun _ i wr => ∃ (j : Nat), j ≤ n ∧ i = .int .i64 j ∧ Hid (WInv w n a es.length cap (k + 1) (rowup (wstart (-1099511627776) 1099511627776) k (first j (fun _ => (-1099511627776)) (fun _ => 0))) wr)) (fun _ i _ => n - (intOf i).toNat)
      case atStart => exact ⟨0, Nat.zero_le _, rfl, by rw [first_zero]; exact hI2⟩
      case round =>
        obtain ⟨j, hj, rfl, hJ⟩ := hrel
        obtain ⟨gi, ci, r0, r1, r2, r3, r4, r5⟩ := hJ.out.rowAt k (by omega) hlt
        have z2 : w.heap.size + 1 + 1 < wr.heap.size := by have := cell_lt r0; simpa using this
        have z3 : w.heap.size + 1 < wr.heap.size := by omega
        have i1 : (0 : Int) ≤ (k : Int) ∧ (k : Int) < (n : Int) := by omega
        have q1 := hJ.out.2.1.1
        have q2 := hJ.out.2.1.2.1
        have n1 : w.heap.size ≠ gi := by omega
        have n2 : w.heap.size + 1 ≠ gi := by omega
        by_cases hjl : j < n
        · have i2 : (0 : Int) ≤ (j : Int) ∧ (j : Int) < (n : Int) := by omega
          have d0 := r5 j hjl
          clear r5
          go_wp2
          go_region
          go_wp2
          go_roundw
          case rel =>
            refine ⟨j + 1, by omega, by go_num, ?_⟩
            rw [← first_step, ← rowup_up]
            exact hide (by repeat (first | with_reducible exact hJ.out | with_reducible refine WInv.drew ?_ | with_reducible refine WInv.drewN ?_ _ | with_reducible refine WInv.alloc ?_ _ | with_reducible refine WInv.set ?_ _ _ (by omega) hlt hjl r0 r2 _))
          case measure => simp [intOf]; omega
        · obtain rfl : n = j := by omega
          have hJ2 := hide (show WInv w n a es.length cap (k + 1) (rowup (wstart (-1099511627776) 1099511627776) k (fun _ => (-1099511627776))) wr from
            hJ.out.congr (fun i j _ hj => by simp only [rowup, first, if_pos hj]))
          have d0 := r5 k hlt
          clear r5
          go_wp2
          go_region
          go_wp2
          go_roundw
          case rel =>
            refine ⟨k + 1, by omega, by go_num, ?_⟩
            have e : (wstart (-1099511627776) 1099511627776 : Nat → Nat → Int) = upm (rowup (wstart (-1099511627776) 1099511627776) k (fun _ => (-1099511627776))) k k 1099511627776 := by
              funext i j
              simp only [wstart, upm, rowup]
              by_cases h1 : i = k
              · subst h1
                by_cases h2 : j = i
                · subst h2; simp
                · have h3 : ¬ i = j := fun h => h2 h.symm
                  simp [h2, h3]
              · simp [h1]
            rw [e]
            exact hide (by repeat (first | with_reducible exact hJ2.out | with_reducible refine WInv.drew ?_ | with_reducible refine WInv.drewN ?_ _ | with_reducible refine WInv.alloc ?_ _ | with_reducible refine WInv.set ?_ _ _ (by omega) hlt hlt r0 r2 _))
          case measure => simp [intOf]; omega
    · obtain rfl : n = k := by omega
      obtain ⟨wo, rfl⟩ : ∃ wo : World, wo = wr := ⟨_, rfl⟩
      have c0 := hI.out.1.2
      clear hlt hk
      go_wp2
      clear c0
      go_loopw [11, 58] (fun _ i wr => ∃ (j : Nat) (m : Nat → Nat → Int), j ≤ es.length ∧ i = .int .i64 j ∧ Hid (m = (nes (es.take j)).foldl (wedge max (fun e => e.c)) (wstart (-1099511627776) 1099511627776)) ∧ Hid (WInv w n a es.length cap n m wr)) (fun _ i _ => es.length - (intOf i).toNat)
      case atStart => exact ⟨0, _, Nat.zero_le _, rfl, rfl, hI⟩
      case round =>
        obtain ⟨j, m, hj, rfl, hm, hJ⟩ := hrel
        clear hI
        by_cases hjl : j < es.length
        · obtain ⟨b, o, rfl, hbB, e0, e1, e2⟩ := hE.out.ed j hjl
          have hbb := hJ.out.2.2.2
          rw [← hbb.cell (by simp; omega)] at e0 e1 e2
          obtain ⟨u, v, hu, hv, hun, hvn, hc1, hc2, hnt⟩ := right_edge hes.out j hjl
          rw [hu] at e0
          rw [hv] at e1
          obtain ⟨cc, hcc⟩ : ∃ x, x = es[j].c := ⟨_, rfl⟩
          rw [← hcc] at e2 hc1 hc2 hnt
          have hstep := hide (show wedge max (fun e => e.c) m ⟨u, v, cc⟩ = (nes (es.take (j + 1))).foldl (wedge max (fun e => e.c)) (wstart (-1099511627776) 1099511627776) by
            rw [hnt, List.foldl_append, ← hm.out]
            rfl)
          obtain ⟨gu, cu, r0, r1, r2, r3, r4, r5⟩ := hJ.out.rowAt u hun hun
          have d0 := r5 v hvn
          have q1 := hJ.out.2.1.2.2.2
          have i1 : (0 : Int) ≤ (u : Int) ∧ (u : Int) < (n : Int) := by omega
          have i2 : (0 : Int) ≤ (v : Int) ∧ (v : Int) < (n : Int) := by omega
          have hbs := hbb.size
          have hbl : b < wr.heap.size := by omega
          replace hcc := hide hcc
          replace hnt := hide hnt
          clear hu hv r5
          go_wp2_with fail
          obtain ⟨w0, h0⟩ : ∃ w0, w0 = wr.alloc (.cells #[.int .i64 (u : Int), .int .i64 (v : Int), .int .i64 cc] 34) := ⟨_, rfl⟩
          have k0 : w0.cell? ⟨wr.heap.size, 0, none⟩ = some (.int .i64 (u : Int)) := by rw [h0]; simp [go_sem]
          have k1 : w0.cell? ⟨wr.heap.size, 1, none⟩ = some (.int .i64 (v : Int)) := by rw [h0]; simp [go_sem]
          have k2 : w0.cell? ⟨wr.heap.size, 2, none⟩ = some (.int .i64 cc) := by rw [h0]; simp [go_sem]
          have k3 : w0.cell? ⟨w.heap.size + 1 + 1, u, none⟩ = some (.slice (some ⟨gu, 0, none⟩) n cu) := by rw [h0]; exact cu_alloc r0
          have k4 : w0.cell? ⟨gu, v, none⟩ = some (.int .i64 (m u v)) := by rw [h0]; exact cu_alloc d0
          have k5 : w0.cell? ⟨w.heap.size + 1, 3, none⟩ = some (.func (.func 81) #[] #[]) := by rw [h0]; exact cu_alloc q1
          have hJ0 : Hid (WInv w n (some ⟨b, o, none⟩) es.length cap n m w0) := by rw [h0]; exact hJ.out.alloc _
          have f0 : ∀ j, w0.frozen? ⟨gu, j, none⟩ = false := by intro j; rw [h0]; exact fu_alloc (r1 j)
          have key := hide (show ∀ w', Below w0.heap.size w0 w' → (Below w0.heap.size w0 w' ∧ w'.cell? ⟨wr.heap.size, 0, none⟩ = some (.int .i64 (u : Int)) ∧ w'.cell? ⟨wr.heap.size, 1, none⟩ = some (.int .i64 (v : Int)) ∧ w'.cell? ⟨wr.heap.size, 2, none⟩ = some (.int .i64 cc) ∧ w'.cell? ⟨w.heap.size + 1 + 1, u, none⟩ = some (.slice (some ⟨gu, 0, none⟩) n cu) ∧ w'.cell? ⟨gu, v, none⟩ = some (.int .i64 (m u v)) ∧ w'.cell? ⟨w.heap.size + 1, 3, none⟩ = some (.func (.func 81) #[] #[]) ∧ w'.frozen? ⟨gu, v, none⟩ = false) from
            fun w' hb => ⟨hb, (hb.cell (cell_lt k0)).trans k0, (hb.cell (cell_lt k1)).trans k1, (hb.cell (cell_lt k2)).trans k2, (hb.cell (cell_lt k3)).trans k3, (hb.cell (cell_lt k4)).trans k4, (hb.cell (cell_lt k5)).trans k5, (hb.frozen (by have := cell_lt k4; simpa using this)).trans (f0 v)⟩)
          simp only [← h0]
          replace h0 := hide h0
          clear e0 e1 e2 r0 r1 d0 q1 k0 k1 k2 k3 k4 k5
          refine wp_region_end (S := (fun w' => Below w0.heap.size w0 w' ∧ w'.cell? ⟨wr.heap.size, 0, none⟩ = some (.int .i64 (u : Int)) ∧ w'.cell? ⟨wr.heap.size, 1, none⟩ = some (.int .i64 (v : Int)) ∧ w'.cell? ⟨wr.heap.size, 2, none⟩ = some (.int .i64 cc) ∧ w'.cell? ⟨w.heap.size + 1 + 1, u, none⟩ = some (.slice (some ⟨gu, 0, none⟩) n cu) ∧ w'.cell? ⟨gu, v, none⟩ = some (.int .i64 (m u v)) ∧ w'.cell? ⟨w.heap.size + 1, 3, none⟩ = some (.func (.func 81) #[] #[]) ∧ w'.frozen? ⟨gu, v, none⟩ = false)) (t := 23) (by kernel_rfl) ?_ (fun hHeld hInv => ?_)
          · exact key.out _ (below_drew _)
          replace hInv := hide hInv
          refine wpAnyE_take (i := 0) (v := ?_) (List.getElem?_toArray.trans rfl) (by kernel_rfl) (by kernel_rfl) (by kernel_rfl) (by kernel_rfl) (fun _ _ _ h => h) (Or.inl ⟨by rfl, ?_⟩) hInv.out (by assumption) (fun hInv' => ?_)
          rotate_left
          · intro w hSw; (try dsimp only at hSw); go_simp; (try with_reducible rfl)
          replace hInv := hide hInv'; clear hInv'; try simp only [Act.put, List.setIfInBounds_toArray, List.set_cons_zero, List.set_cons_succ]
          refine wpAnyE_take (i := 1) (v := ?_) (List.getElem?_toArray.trans rfl) (by kernel_rfl) (by kernel_rfl) (by kernel_rfl) (by kernel_rfl) (fun _ _ _ h => h) (Or.inl ⟨by rfl, ?_⟩) hInv.out (by assumption) (fun hInv' => ?_)
          rotate_left
          · intro w hSw; (try dsimp only at hSw); go_simp; (try with_reducible rfl)
          replace hInv := hide hInv'; clear hInv'; try simp only [Act.put, List.setIfInBounds_toArray, List.set_cons_zero, List.set_cons_succ]
          refine wpAnyE_take (i := 2) (v := ?_) (List.getElem?_toArray.trans rfl) (by kernel_rfl) (by kernel_rfl) (by kernel_rfl) (by kernel_rfl) (fun _ _ _ h => h) (Or.inl ⟨by rfl, ?_⟩) hInv.out (by assumption) (fun hInv' => ?_)
          rotate_left
          · intro w hSw; (try dsimp only at hSw); go_simp; (try with_reducible rfl)
          replace hInv := hide hInv'; clear hInv'; try simp only [Act.put, List.setIfInBounds_toArray, List.set_cons_zero, List.set_cons_succ]
          refine wpAnyE_take (i := 3) (v := ?_) (List.getElem?_toArray.trans rfl) (by kernel_rfl) (by kernel_rfl) (by kernel_rfl) (by kernel_rfl) (fun _ _ _ h => h) (Or.inl ⟨by rfl, ?_⟩) hInv.out (by assumption) (fun hInv' => ?_)
          rotate_left
          · intro w hSw; (try dsimp only at hSw); go_simp; (try with_reducible rfl)
          replace hInv := hide hInv'; clear hInv'; try simp only [Act.put, List.setIfInBounds_toArray, List.set_cons_zero, List.set_cons_succ]
          refine wpAnyE_take (i := 4) (v := ?_) (List.getElem?_toArray.trans rfl) (by kernel_rfl) (by kernel_rfl) (by kernel_rfl) (by kernel_rfl) (fun _ _ _ h => h) (Or.inl ⟨by rfl, ?_⟩) hInv.out (by assumption) (fun hInv' => ?_)
          rotate_left
          · intro w hSw; (try dsimp only at hSw); go_simp; (try with_reducible rfl)
          replace hInv := hide hInv'; clear hInv'; try simp only [Act.put, List.setIfInBounds_toArray, List.set_cons_zero, List.set_cons_succ]
          refine wpAnyE_take (i := 5) (v := ?_) (List.getElem?_toArray.trans rfl) (by kernel_rfl) (by kernel_rfl) (by kernel_rfl) (by kernel_rfl) (fun _ _ _ h => h) (Or.inl ⟨by rfl, ?_⟩) hInv.out (by assumption) (fun hInv' => ?_)
          rotate_left
          · intro w hSw; (try dsimp only at hSw); go_simp; (try with_reducible rfl)
          replace hInv := hide hInv'; clear hInv'; try simp only [Act.put, List.setIfInBounds_toArray, List.set_cons_zero, List.set_cons_succ]
          refine wpAnyE_take (i := 6) (v := ?_) (List.getElem?_toArray.trans rfl) (by kernel_rfl) (by kernel_rfl) (by kernel_rfl) (by kernel_rfl) (fun _ _ _ h => h) (Or.inl ⟨by rfl, ?_⟩) hInv.out (by assumption) (fun hInv' => ?_)
          rotate_left
          · intro w hSw; (try dsimp only at hSw); go_simp; (try with_reducible rfl)
          replace hInv := hide hInv'; clear hInv'; try simp only [Act.put, List.setIfInBounds_toArray, List.set_cons_zero, List.set_cons_succ]
          refine wpAnyE_take (i := 7) (v := ?_) (List.getElem?_toArray.trans rfl) (by kernel_rfl) (by kernel_rfl) (by kernel_rfl) (by kernel_rfl) (fun _ _ _ h => h) (Or.inl ⟨by rfl, ?_⟩) hInv.out (by assumption) (fun hInv' => ?_)
          rotate_left
          · intro w hSw; (try dsimp only at hSw); go_simp; (try with_reducible rfl)
          replace hInv := hide hInv'; clear hInv'; try simp only [Act.put, List.setIfInBounds_toArray, List.set_cons_zero, List.set_cons_succ]
          refine wpAnyE_take (i := 8) (v := ?_) (List.getElem?_toArray.trans rfl) (by kernel_rfl) (by kernel_rfl) (by kernel_rfl) (by kernel_rfl) (fun _ _ _ h => h) (Or.inl ⟨by rfl, ?_⟩) hInv.out (by assumption) (fun hInv' => ?_)
          rotate_left
          · intro w hSw; (try dsimp only at hSw); go_simp; (try with_reducible rfl)
          replace hInv := hide hInv'; clear hInv'; try simp only [Act.put, List.setIfInBounds_toArray, List.set_cons_zero, List.set_cons_succ]
          refine wpAnyE_take (i := 9) (v := ?_) (List.getElem?_toArray.trans rfl) (by kernel_rfl) (by kernel_rfl) (by kernel_rfl) (by kernel_rfl) (fun _ _ _ h => h) (Or.inl ⟨by rfl, ?_⟩) hInv.out (by assumption) (fun hInv' => ?_)
          rotate_left
          · intro w hSw; (try dsimp only at hSw); go_simp; (try with_reducible rfl)
          replace hInv := hide hInv'; clear hInv'; try simp only [Act.put, List.setIfInBounds_toArray, List.set_cons_zero, List.set_cons_succ]
          refine wpAnyE_take (i := 10) (v := ?_) (List.getElem?_toArray.trans rfl) (by kernel_rfl) (by kernel_rfl) (by kernel_rfl) (by kernel_rfl) (fun _ _ _ h => h) (Or.inl ⟨by rfl, ?_⟩) hInv.out (by assumption) (fun hInv' => ?_)
          rotate_left
          · intro w hSw; (try dsimp only at hSw); go_simp; (try with_reducible rfl)
          replace hInv := hide hInv'; clear hInv'; try simp only [Act.put, List.setIfInBounds_toArray, List.set_cons_zero, List.set_cons_succ]
          refine wpAnyE_take (i := 11) (v := ?_) (List.getElem?_toArray.trans rfl) (by kernel_rfl) (by kernel_rfl) (by kernel_rfl) (by kernel_rfl) (fun _ _ _ h => h) (Or.inl ⟨by rfl, ?_⟩) hInv.out (by assumption) (fun hInv' => ?_)
          rotate_left
          · intro w hSw; (try dsimp only at hSw); go_simp; (try with_reducible rfl)
          replace hInv := hide hInv'; clear hInv'; try simp only [Act.put, List.setIfInBounds_toArray, List.set_cons_zero, List.set_cons_succ]
          refine wpAnyE_take (i := 12) (v := ?_) (List.getElem?_toArray.trans rfl) (by kernel_rfl) (by kernel_rfl) (by kernel_rfl) (by kernel_rfl) (fun _ _ _ h => h) (Or.inl ⟨by rfl, ?_⟩) hInv.out (by assumption) (fun hInv' => ?_)
          rotate_left
          · intro w hSw; (try dsimp only at hSw); go_simp; (try with_reducible rfl)
          replace hInv := hide hInv'; clear hInv'; try simp only [Act.put, List.setIfInBounds_toArray, List.set_cons_zero, List.set_cons_succ]
          refine wpAnyE_take (i := 13) (v := ?_) (List.getElem?_toArray.trans rfl) (by kernel_rfl) (by kernel_rfl) (by kernel_rfl) (by kernel_rfl) (fun _ _ _ h => h) (Or.inl ⟨by rfl, ?_⟩) hInv.out (by assumption) (fun hInv' => ?_)
          rotate_left
          · intro w hSw; (try dsimp only at hSw); go_simp; (try with_reducible rfl)
          replace hInv := hide hInv'; clear hInv'; try simp only [Act.put, List.setIfInBounds_toArray, List.set_cons_zero, List.set_cons_succ]
          refine wpAnyE_take (i := 14) (v := ?_) (List.getElem?_toArray.trans rfl) (by kernel_rfl) (by kernel_rfl) (by kernel_rfl) (by kernel_rfl) (fun _ _ _ h => h) (Or.inl ⟨by rfl, ?_⟩) hInv.out (by assumption) (fun hInv' => ?_)
          rotate_left
          · intro w hSw; (try dsimp only at hSw); go_simp; (try with_reducible rfl)
          replace hInv := hide hInv'; clear hInv'; try simp only [Act.put, List.setIfInBounds_toArray, List.set_cons_zero, List.set_cons_succ]
          refine wpAnyE_take (i := 15) (v := ?_) (List.getElem?_toArray.trans rfl) (by kernel_rfl) (by kernel_rfl) (by kernel_rfl) (by kernel_rfl) (fun _ _ _ h => h) (Or.inl ⟨by rfl, ?_⟩) hInv.out (by assumption) (fun hInv' => ?_)
          rotate_left
          · intro w hSw; (try dsimp only at hSw); go_simp; (try with_reducible rfl)
          replace hInv := hide hInv'; clear hInv'; try simp only [Act.put, List.setIfInBounds_toArray, List.set_cons_zero, List.set_cons_succ]
          refine wpAnyE_take (i := 16) (v := ?_) (List.getElem?_toArray.trans rfl) (by kernel_rfl) (by kernel_rfl) (by kernel_rfl) (by kernel_rfl) (fun _ _ _ h => h) (Or.inl ⟨by rfl, ?_⟩) hInv.out (by assumption) (fun hInv' => ?_)
          rotate_left
          · intro w hSw; (try dsimp only at hSw); go_simp; (try with_reducible rfl)
          replace hInv := hide hInv'; clear hInv'; try simp only [Act.put, List.setIfInBounds_toArray, List.set_cons_zero, List.set_cons_succ]
          refine wpAnyE_take (i := 17) (v := ?_) (List.getElem?_toArray.trans rfl) (by kernel_rfl) (by kernel_rfl) (by kernel_rfl) (by kernel_rfl) (fun _ _ _ h => h) (Or.inl ⟨by rfl, ?_⟩) hInv.out (by assumption) (fun hInv' => ?_)
          rotate_left
          · intro w hSw; (try dsimp only at hSw); go_simp; (try with_reducible rfl)
          replace hInv := hide hInv'; clear hInv'; try simp only [Act.put, List.setIfInBounds_toArray, List.set_cons_zero, List.set_cons_succ]
          refine wpAnyE_take (i := 18) (v := ?_) (List.getElem?_toArray.trans rfl) (by kernel_rfl) (by kernel_rfl) (by kernel_rfl) (by kernel_rfl) (fun _ _ _ h => h) (Or.inl ⟨by rfl, ?_⟩) hInv.out (by assumption) (fun hInv' => ?_)
          rotate_left
          · intro w hSw; (try dsimp only at hSw); go_simp; (try with_reducible rfl)
          replace hInv := hide hInv'; clear hInv'; try simp only [Act.put, List.setIfInBounds_toArray, List.set_cons_zero, List.set_cons_succ]
          refine wpAnyE_take (i := 19) (v := ?_) (List.getElem?_toArray.trans rfl) (by kernel_rfl) (by kernel_rfl) (by kernel_rfl) (by kernel_rfl) (fun _ _ _ h => h) (Or.inl ⟨by rfl, ?_⟩) hInv.out (by assumption) (fun hInv' => ?_)
          rotate_left
          · intro w hSw; (try dsimp only at hSw); go_simp; (try with_reducible rfl)
          replace hInv := hide hInv'; clear hInv'; try simp only [Act.put, List.setIfInBounds_toArray, List.set_cons_zero, List.set_cons_succ]
          refine wpAnyE_one (i := 20) (List.getElem?_toArray.trans rfl) (by kernel_rfl) (fun K hK => ?_) hInv.out
          go_simp; refine (edW_any _ _ _ _).mono ?_; rintro e w4 ⟨rfl, hb5⟩; have hb6 := below_step hHeld.1 hb5; clear hHeld
          have hHeld := key.out _ hb6
          refine hK.out _ _ (fun _ => hHeld) (fun hInv' => ?_)
          clear hK K; replace hInv := hide (hInv' (by decide)); clear hInv'; try simp only [Act.put, List.setIfInBounds_toArray, List.set_cons_zero, List.set_cons_succ]
          refine wpAnyE_one (i := 21) (List.getElem?_toArray.trans rfl) (by kernel_rfl) (fun K hK => ?_) hInv.out
          go_simp; refine (orW_any _ _ _).mono ?_; rintro e w5 ⟨rfl, rfl⟩; clear hHeld
          have hHeld := key.out _ hb6
          refine hK.out _ _ (fun _ => hHeld) (fun hInv' => ?_)
          clear hK K; replace hInv := hide (hInv' (by decide)); clear hInv'; try simp only [Act.put, List.setIfInBounds_toArray, List.set_cons_zero, List.set_cons_succ]
          refine wpAnyE_take (i := 22) (v := ?_) (List.getElem?_toArray.trans rfl) (by kernel_rfl) (by kernel_rfl) (by kernel_rfl) (by kernel_rfl) (fun _ _ _ h => h) (Or.inl ⟨by rfl, ?_⟩) hInv.out (by assumption) (fun hInv' => ?_)
          rotate_left
          · intro w hSw; (try dsimp only at hSw); go_simp; (try with_reducible rfl)
          replace hInv := hide hInv'; clear hInv'; try simp only [Act.put, List.setIfInBounds_toArray, List.set_cons_zero, List.set_cons_succ]
          refine wpAnyE_one (i := 23) (List.getElem?_toArray.trans rfl) (by kernel_rfl) (fun K hK => ?_) hInv.out
          (try dsimp only at hHeld); go_simp
          refine hK.out _ _ (fun h => absurd rfl h) (fun _ => ?_)
          clear hK K hInv; try simp only [Act.put, List.setIfInBounds_toArray, List.set_cons_zero, List.set_cons_succ]
          refine wpAnyE_done (by kernel_rfl) ?_ _
          go_wp2
          go_roundw
          case rel =>
            refine ⟨j + 1, wedge max (fun e => e.c) m ⟨u, v, cc⟩, by omega, by go_num, hstep, ?_⟩
            have hJ4 := (hJ0.out.drew).later hb5
            have hfin := hJ4.set u v hun hun hvn hHeld.2.2.2.2.1 r2 (max (m u v) ((fun e => e.c) (⟨u, v, cc⟩ : NE)))
            exact hide (show WInv w n _ _ cap n (upm m u v (max (m u v) ((fun e => e.c) (⟨u, v, cc⟩ : NE)))) _ from (by first | exact hfin | simpa  using hfin))
          case measure => simp [intOf]; omega
        · obtain rfl : j = es.length := by omega
          have hm2 : m = (nes es).foldl (wedge max (fun e => e.c)) (wstart (-1099511627776) 1099511627776) := by rw [hm.out, List.take_length]
          obtain ⟨wp, rfl⟩ : ∃ wp : World, wp = wr := ⟨_, rfl⟩
          clear hjl hj
          go_wp2
          go_loopw [12, 13, 14, 88] (fun _ _ _ i wr => ∃ (k : Nat) (m' : Nat → Nat → Int), k ≤ n ∧ i = .int .i64 k ∧ Hid (m' = wall max min n m k) ∧ Hid (WInv w n a es.length cap n m' wr)) (fun _ _ _ i _ => n - (intOf i).toNat)
          case atStart => exact ⟨0, m, Nat.zero_le _, rfl, rfl, hJ⟩
          case round =>
            obtain ⟨k, mk, hk, rfl, hmk, hJk⟩ := hrel
            by_cases hkl : k < n
            · obtain ⟨wq, rfl⟩ : ∃ wq : World, wq = wr := ⟨_, rfl⟩
              go_wp2
              go_loopw [13, 14, 93] (fun _ _ i wr => ∃ (i1 : Nat) (m' : Nat → Nat → Int), i1 ≤ n ∧ i = .int .i64 i1 ∧ Hid (m' = wstage max min n k mk i1) ∧ Hid (WInv w n a es.length cap n m' wr)) (fun _ _ i _ => n - (intOf i).toNat)
              case atStart => exact ⟨0, mk, Nat.zero_le _, rfl, rfl, hJk⟩
              case round =>
                obtain ⟨i1, mi, hi, rfl, hmi, hJi⟩ := hrel
                by_cases hil : i1 < n
                · obtain ⟨wu, rfl⟩ : ∃ wu : World, wu = wr := ⟨_, rfl⟩
                  go_wp2
                  go_loopw [14, 98] (fun _ i wr => ∃ (j1 : Nat) (m' : Nat → Nat → Int), j1 ≤ n ∧ i = .int .i64 j1 ∧ Hid (m' = wrow max min k i1 mi j1) ∧ Hid (WInv w n a es.length cap n m' wr)) (fun _ i _ => n - (intOf i).toNat)
                  case atStart => exact ⟨0, mi, Nat.zero_le _, rfl, rfl, hJi⟩
                  case round =>
                    obtain ⟨j1, mj, hj, rfl, hmj, hJj⟩ := hrel
                    by_cases hjl : j1 < n
                    · obtain ⟨gi, ci, r0, r1, r2, r3, r4, r5⟩ := hJj.out.rowAt i1 hil hil
                      obtain ⟨gk, ck, s0, s1, s2, s3, s4, s5⟩ := hJj.out.rowAt k hkl hkl
                      have d0 := r5 j1 hjl
                      have d1 := r5 k hkl
                      have d2 := s5 j1 hjl
                      have q2 := hJj.out.2.1.2.2.1
                      have q3 := hJj.out.2.1.2.2.2
                      have b1 : (0 : Int) ≤ (k : Int) ∧ (k : Int) < (n : Int) := by omega
                      have b2 : (0 : Int) ≤ (i1 : Int) ∧ (i1 : Int) < (n : Int) := by omega
                      have b3 : (0 : Int) ≤ (j1 : Int) ∧ (j1 : Int) < (n : Int) := by omega
                      have f0 := r1 j1
                      have key := hide (show wr.drew.cell? ⟨w.heap.size + 1 + 1, i1, none⟩ = some (.slice (some ⟨gi, 0, none⟩) n ci) ∧ wr.drew.cell? ⟨w.heap.size + 1 + 1, k, none⟩ = some (.slice (some ⟨gk, 0, none⟩) n ck) ∧ wr.drew.cell? ⟨gi, j1, none⟩ = some (.int .i64 (mj i1 j1)) ∧ wr.drew.cell? ⟨gi, k, none⟩ = some (.int .i64 (mj i1 k)) ∧ wr.drew.cell? ⟨gk, j1, none⟩ = some (.int .i64 (mj k j1)) ∧ wr.drew.cell? ⟨w.heap.size + 1, 2, none⟩ = some (.func (.func 82) #[] #[]) ∧ wr.drew.cell? ⟨w.heap.size + 1, 3, none⟩ = some (.func (.func 81) #[] #[]) ∧ wr.drew.frozen? ⟨gi, j1, none⟩ = false from ⟨r0, s0, d0, d1, d2, q2, q3, f0⟩)
                      clear r1 r5 s1 s5
                      go_wp2_with fail
                      clear d0 d1 d2 q2 q3 f0 s0
                      refine wp_region_end (S := (fun w' => w'.cell? ⟨w.heap.size + 1 + 1, i1, none⟩ = some (.slice (some ⟨gi, 0, none⟩) n ci) ∧ w'.cell? ⟨w.heap.size + 1 + 1, k, none⟩ = some (.slice (some ⟨gk, 0, none⟩) n ck) ∧ w'.cell? ⟨gi, j1, none⟩ = some (.int .i64 (mj i1 j1)) ∧ w'.cell? ⟨gi, k, none⟩ = some (.int .i64 (mj i1 k)) ∧ w'.cell? ⟨gk, j1, none⟩ = some (.int .i64 (mj k j1)) ∧ w'.cell? ⟨w.heap.size + 1, 2, none⟩ = some (.func (.func 82) #[] #[]) ∧ w'.cell? ⟨w.heap.size + 1, 3, none⟩ = some (.func (.func 81) #[] #[]) ∧ w'.frozen? ⟨gi, j1, none⟩ = false)) (t := 33) (by kernel_rfl) ?_ (fun hHeld hInv => ?_)
                      · exact key.out
                      replace hInv := hide hInv
                      refine wpAnyE_take (i := 0) (v := ?_) (List.getElem?_toArray.trans rfl) (by kernel_rfl) (by kernel_rfl) (by kernel_rfl) (by kernel_rfl) (fun _ _ _ h => h) (Or.inl ⟨by rfl, ?_⟩) hInv.out (by assumption) (fun hInv' => ?_)
                      rotate_left
                      · intro w hSw; (try dsimp only at hSw); go_simp; (try with_reducible rfl)
                      replace hInv := hide hInv'; clear hInv'; try simp only [Act.put, List.setIfInBounds_toArray, List.set_cons_zero, List.set_cons_succ]
                      refine wpAnyE_take (i := 1) (v := ?_) (List.getElem?_toArray.trans rfl) (by kernel_rfl) (by kernel_rfl) (by kernel_rfl) (by kernel_rfl) (fun _ _ _ h => h) (Or.inl ⟨by rfl, ?_⟩) hInv.out (by assumption) (fun hInv' => ?_)
                      rotate_left
                      · intro w hSw; (try dsimp only at hSw); go_simp; (try with_reducible rfl)
                      replace hInv := hide hInv'; clear hInv'; try simp only [Act.put, List.setIfInBounds_toArray, List.set_cons_zero, List.set_cons_succ]
                      refine wpAnyE_take (i := 2) (v := ?_) (List.getElem?_toArray.trans rfl) (by kernel_rfl) (by kernel_rfl) (by kernel_rfl) (by kernel_rfl) (fun _ _ _ h => h) (Or.inl ⟨by rfl, ?_⟩) hInv.out (by assumption) (fun hInv' => ?_)
                      rotate_left
                      · intro w hSw; (try dsimp only at hSw); go_simp; (try with_reducible rfl)
                      replace hInv := hide hInv'; clear hInv'; try simp only [Act.put, List.setIfInBounds_toArray, List.set_cons_zero, List.set_cons_succ]
                      refine wpAnyE_take (i := 3) (v := ?_) (List.getElem?_toArray.trans rfl) (by kernel_rfl) (by kernel_rfl) (by kernel_rfl) (by kernel_rfl) (fun _ _ _ h => h) (Or.inl ⟨by rfl, ?_⟩) hInv.out (by assumption) (fun hInv' => ?_)
                      rotate_left
                      · intro w hSw; (try dsimp only at hSw); go_simp; (try with_reducible rfl)
                      replace hInv := hide hInv'; clear hInv'; try simp only [Act.put, List.setIfInBounds_toArray, List.set_cons_zero, List.set_cons_succ]
                      refine wpAnyE_take (i := 4) (v := ?_) (List.getElem?_toArray.trans rfl) (by kernel_rfl) (by kernel_rfl) (by kernel_rfl) (by kernel_rfl) (fun _ _ _ h => h) (Or.inl ⟨by rfl, ?_⟩) hInv.out (by assumption) (fun hInv' => ?_)
                      rotate_left
                      · intro w hSw; (try dsimp only at hSw); go_simp; (try with_reducible rfl)
                      replace hInv := hide hInv'; clear hInv'; try simp only [Act.put, List.setIfInBounds_toArray, List.set_cons_zero, List.set_cons_succ]
                      refine wpAnyE_take (i := 5) (v := ?_) (List.getElem?_toArray.trans rfl) (by kernel_rfl) (by kernel_rfl) (by kernel_rfl) (by kernel_rfl) (fun _ _ _ h => h) (Or.inl ⟨by rfl, ?_⟩) hInv.out (by assumption) (fun hInv' => ?_)
                      rotate_left
                      · intro w hSw; (try dsimp only at hSw); go_simp; (try with_reducible rfl)
                      replace hInv := hide hInv'; clear hInv'; try simp only [Act.put, List.setIfInBounds_toArray, List.set_cons_zero, List.set_cons_succ]
                      refine wpAnyE_take (i := 6) (v := ?_) (List.getElem?_toArray.trans rfl) (by kernel_rfl) (by kernel_rfl) (by kernel_rfl) (by kernel_rfl) (fun _ _ _ h => h) (Or.inl ⟨by rfl, ?_⟩) hInv.out (by assumption) (fun hInv' => ?_)
                      rotate_left
                      · intro w hSw; (try dsimp only at hSw); go_simp; (try with_reducible rfl)
                      replace hInv := hide hInv'; clear hInv'; try simp only [Act.put, List.setIfInBounds_toArray, List.set_cons_zero, List.set_cons_succ]
                      refine wpAnyE_take (i := 7) (v := ?_) (List.getElem?_toArray.trans rfl) (by kernel_rfl) (by kernel_rfl) (by kernel_rfl) (by kernel_rfl) (fun _ _ _ h => h) (Or.inl ⟨by rfl, ?_⟩) hInv.out (by assumption) (fun hInv' => ?_)
                      rotate_left
                      · intro w hSw; (try dsimp only at hSw); go_simp; (try with_reducible rfl)
                      replace hInv := hide hInv'; clear hInv'; try simp only [Act.put, List.setIfInBounds_toArray, List.set_cons_zero, List.set_cons_succ]
                      refine wpAnyE_take (i := 8) (v := ?_) (List.getElem?_toArray.trans rfl) (by kernel_rfl) (by kernel_rfl) (by kernel_rfl) (by kernel_rfl) (fun _ _ _ h => h) (Or.inl ⟨by rfl, ?_⟩) hInv.out (by assumption) (fun hInv' => ?_)
                      rotate_left
                      · intro w hSw; (try dsimp only at hSw); go_simp; (try with_reducible rfl)
                      replace hInv := hide hInv'; clear hInv'; try simp only [Act.put, List.setIfInBounds_toArray, List.set_cons_zero, List.set_cons_succ]
                      refine wpAnyE_take (i := 9) (v := ?_) (List.getElem?_toArray.trans rfl) (by kernel_rfl) (by kernel_rfl) (by kernel_rfl) (by kernel_rfl) (fun _ _ _ h => h) (Or.inl ⟨by rfl, ?_⟩) hInv.out (by assumption) (fun hInv' => ?_)
                      rotate_left
                      · intro w hSw; (try dsimp only at hSw); go_simp; (try with_reducible rfl)
                      replace hInv := hide hInv'; clear hInv'; try simp only [Act.put, List.setIfInBounds_toArray, List.set_cons_zero, List.set_cons_succ]
                      refine wpAnyE_take (i := 10) (v := ?_) (List.getElem?_toArray.trans rfl) (by kernel_rfl) (by kernel_rfl) (by kernel_rfl) (by kernel_rfl) (fun _ _ _ h => h) (Or.inl ⟨by rfl, ?_⟩) hInv.out (by assumption) (fun hInv' => ?_)
                      rotate_left
                      · intro w hSw; (try dsimp only at hSw); go_simp; (try with_reducible rfl)
                      replace hInv := hide hInv'; clear hInv'; try simp only [Act.put, List.setIfInBounds_toArray, List.set_cons_zero, List.set_cons_succ]
                      refine wpAnyE_take (i := 11) (v := ?_) (List.getElem?_toArray.trans rfl) (by kernel_rfl) (by kernel_rfl) (by kernel_rfl) (by kernel_rfl) (fun _ _ _ h => h) (Or.inl ⟨by rfl, ?_⟩) hInv.out (by assumption) (fun hInv' => ?_)
                      rotate_left
                      · intro w hSw; (try dsimp only at hSw); go_simp; (try with_reducible rfl)
                      replace hInv := hide hInv'; clear hInv'; try simp only [Act.put, List.setIfInBounds_toArray, List.set_cons_zero, List.set_cons_succ]
                      refine wpAnyE_take (i := 12) (v := ?_) (List.getElem?_toArray.trans rfl) (by kernel_rfl) (by kernel_rfl) (by kernel_rfl) (by kernel_rfl) (fun _ _ _ h => h) (Or.inl ⟨by rfl, ?_⟩) hInv.out (by assumption) (fun hInv' => ?_)
                      rotate_left
                      · intro w hSw; (try dsimp only at hSw); go_simp; (try with_reducible rfl)
                      replace hInv := hide hInv'; clear hInv'; try simp only [Act.put, List.setIfInBounds_toArray, List.set_cons_zero, List.set_cons_succ]
                      refine wpAnyE_take (i := 13) (v := ?_) (List.getElem?_toArray.trans rfl) (by kernel_rfl) (by kernel_rfl) (by kernel_rfl) (by kernel_rfl) (fun _ _ _ h => h) (Or.inl ⟨by rfl, ?_⟩) hInv.out (by assumption) (fun hInv' => ?_)
                      rotate_left
                      · intro w hSw; (try dsimp only at hSw); go_simp; (try with_reducible rfl)
                      replace hInv := hide hInv'; clear hInv'; try simp only [Act.put, List.setIfInBounds_toArray, List.set_cons_zero, List.set_cons_succ]
                      refine wpAnyE_take (i := 14) (v := ?_) (List.getElem?_toArray.trans rfl) (by kernel_rfl) (by kernel_rfl) (by kernel_rfl) (by kernel_rfl) (fun _ _ _ h => h) (Or.inl ⟨by rfl, ?_⟩) hInv.out (by assumption) (fun hInv' => ?_)
                      rotate_left
                      · intro w hSw; (try dsimp only at hSw); go_simp; (try with_reducible rfl)
                      replace hInv := hide hInv'; clear hInv'; try simp only [Act.put, List.setIfInBounds_toArray, List.set_cons_zero, List.set_cons_succ]
                      refine wpAnyE_take (i := 15) (v := ?_) (List.getElem?_toArray.trans rfl) (by kernel_rfl) (by kernel_rfl) (by kernel_rfl) (by kernel_rfl) (fun _ _ _ h => h) (Or.inl ⟨by rfl, ?_⟩) hInv.out (by assumption) (fun hInv' => ?_)
                      rotate_left
                      · intro w hSw; (try dsimp only at hSw); go_simp; (try with_reducible rfl)
                      replace hInv := hide hInv'; clear hInv'; try simp only [Act.put, List.setIfInBounds_toArray, List.set_cons_zero, List.set_cons_succ]
                      refine wpAnyE_take (i := 16) (v := ?_) (List.getElem?_toArray.trans rfl) (by kernel_rfl) (by kernel_rfl) (by kernel_rfl) (by kernel_rfl) (fun _ _ _ h => h) (Or.inl ⟨by rfl, ?_⟩) hInv.out (by assumption) (fun hInv' => ?_)
                      rotate_left
                      · intro w hSw; (try dsimp only at hSw); go_simp; (try with_reducible rfl)
                      replace hInv := hide hInv'; clear hInv'; try simp only [Act.put, List.setIfInBounds_toArray, List.set_cons_zero, List.set_cons_succ]
                      refine wpAnyE_take (i := 17) (v := ?_) (List.getElem?_toArray.trans rfl) (by kernel_rfl) (by kernel_rfl) (by kernel_rfl) (by kernel_rfl) (fun _ _ _ h => h) (Or.inl ⟨by rfl, ?_⟩) hInv.out (by assumption) (fun hInv' => ?_)
                      rotate_left
                      · intro w hSw; (try dsimp only at hSw); go_simp; (try with_reducible rfl)
                      replace hInv := hide hInv'; clear hInv'; try simp only [Act.put, List.setIfInBounds_toArray, List.set_cons_zero, List.set_cons_succ]
                      refine wpAnyE_take (i := 18) (v := ?_) (List.getElem?_toArray.trans rfl) (by kernel_rfl) (by kernel_rfl) (by kernel_rfl) (by kernel_rfl) (fun _ _ _ h => h) (Or.inl ⟨by rfl, ?_⟩) hInv.out (by assumption) (fun hInv' => ?_)
                      rotate_left
                      · intro w hSw; (try dsimp only at hSw); go_simp; (try with_reducible rfl)
                      replace hInv := hide hInv'; clear hInv'; try simp only [Act.put, List.setIfInBounds_toArray, List.set_cons_zero, List.set_cons_succ]
                      refine wpAnyE_take (i := 19) (v := ?_) (List.getElem?_toArray.trans rfl) (by kernel_rfl) (by kernel_rfl) (by kernel_rfl) (by kernel_rfl) (fun _ _ _ h => h) (Or.inl ⟨by rfl, ?_⟩) hInv.out (by assumption) (fun hInv' => ?_)
                      rotate_left
                      · intro w hSw; (try dsimp only at hSw); go_simp; (try with_reducible rfl)
                      replace hInv := hide hInv'; clear hInv'; try simp only [Act.put, List.setIfInBounds_toArray, List.set_cons_zero, List.set_cons_succ]
                      refine wpAnyE_take (i := 20) (v := ?_) (List.getElem?_toArray.trans rfl) (by kernel_rfl) (by kernel_rfl) (by kernel_rfl) (by kernel_rfl) (fun _ _ _ h => h) (Or.inl ⟨by rfl, ?_⟩) hInv.out (by assumption) (fun hInv' => ?_)
                      rotate_left
                      · intro w hSw; (try dsimp only at hSw); go_simp; (try with_reducible rfl)
                      replace hInv := hide hInv'; clear hInv'; try simp only [Act.put, List.setIfInBounds_toArray, List.set_cons_zero, List.set_cons_succ]
                      refine wpAnyE_take (i := 21) (v := ?_) (List.getElem?_toArray.trans rfl) (by kernel_rfl) (by kernel_rfl) (by kernel_rfl) (by kernel_rfl) (fun _ _ _ h => h) (Or.inl ⟨by rfl, ?_⟩) hInv.out (by assumption) (fun hInv' => ?_)
                      rotate_left
                      · intro w hSw; (try dsimp only at hSw); go_simp; (try with_reducible rfl)
                      replace hInv := hide hInv'; clear hInv'; try simp only [Act.put, List.setIfInBounds_toArray, List.set_cons_zero, List.set_cons_succ]
                      refine wpAnyE_take (i := 22) (v := ?_) (List.getElem?_toArray.trans rfl) (by kernel_rfl) (by kernel_rfl) (by kernel_rfl) (by kernel_rfl) (fun _ _ _ h => h) (Or.inl ⟨by rfl, ?_⟩) hInv.out (by assumption) (fun hInv' => ?_)
                      rotate_left
                      · intro w hSw; (try dsimp only at hSw); go_simp; (try with_reducible rfl)
                      replace hInv := hide hInv'; clear hInv'; try simp only [Act.put, List.setIfInBounds_toArray, List.set_cons_zero, List.set_cons_succ]
                      refine wpAnyE_take (i := 23) (v := ?_) (List.getElem?_toArray.trans rfl) (by kernel_rfl) (by kernel_rfl) (by kernel_rfl) (by kernel_rfl) (fun _ _ _ h => h) (Or.inl ⟨by rfl, ?_⟩) hInv.out (by assumption) (fun hInv' => ?_)
                      rotate_left
                      · intro w hSw; (try dsimp only at hSw); go_simp; (try with_reducible rfl)
                      replace hInv := hide hInv'; clear hInv'; try simp only [Act.put, List.setIfInBounds_toArray, List.set_cons_zero, List.set_cons_succ]
                      refine wpAnyE_take (i := 24) (v := ?_) (List.getElem?_toArray.trans rfl) (by kernel_rfl) (by kernel_rfl) (by kernel_rfl) (by kernel_rfl) (fun _ _ _ h => h) (Or.inl ⟨by rfl, ?_⟩) hInv.out (by assumption) (fun hInv' => ?_)
                      rotate_left
                      · intro w hSw; (try dsimp only at hSw); go_simp; (try with_reducible rfl)
                      replace hInv := hide hInv'; clear hInv'; try simp only [Act.put, List.setIfInBounds_toArray, List.set_cons_zero, List.set_cons_succ]
                      refine wpAnyE_take (i := 25) (v := ?_) (List.getElem?_toArray.trans rfl) (by kernel_rfl) (by kernel_rfl) (by kernel_rfl) (by kernel_rfl) (fun _ _ _ h => h) (Or.inl ⟨by rfl, ?_⟩) hInv.out (by assumption) (fun hInv' => ?_)
                      rotate_left
                      · intro w hSw; (try dsimp only at hSw); go_simp; (try with_reducible rfl)
                      replace hInv := hide hInv'; clear hInv'; try simp only [Act.put, List.setIfInBounds_toArray, List.set_cons_zero, List.set_cons_succ]
                      refine wpAnyE_take (i := 26) (v := ?_) (List.getElem?_toArray.trans rfl) (by kernel_rfl) (by kernel_rfl) (by kernel_rfl) (by kernel_rfl) (fun _ _ _ h => h) (Or.inl ⟨by rfl, ?_⟩) hInv.out (by assumption) (fun hInv' => ?_)
                      rotate_left
                      · intro w hSw; (try dsimp only at hSw); go_simp; (try with_reducible rfl)
                      replace hInv := hide hInv'; clear hInv'; try simp only [Act.put, List.setIfInBounds_toArray, List.set_cons_zero, List.set_cons_succ]
                      refine wpAnyE_take (i := 27) (v := ?_) (List.getElem?_toArray.trans rfl) (by kernel_rfl) (by kernel_rfl) (by kernel_rfl) (by kernel_rfl) (fun _ _ _ h => h) (Or.inl ⟨by rfl, ?_⟩) hInv.out (by assumption) (fun hInv' => ?_)
                      rotate_left
                      · intro w hSw; (try dsimp only at hSw); go_simp; (try with_reducible rfl)
                      replace hInv := hide hInv'; clear hInv'; try simp only [Act.put, List.setIfInBounds_toArray, List.set_cons_zero, List.set_cons_succ]
                      refine wpAnyE_take (i := 28) (v := ?_) (List.getElem?_toArray.trans rfl) (by kernel_rfl) (by kernel_rfl) (by kernel_rfl) (by kernel_rfl) (fun _ _ _ h => h) (Or.inl ⟨by rfl, ?_⟩) hInv.out (by assumption) (fun hInv' => ?_)
                      rotate_left
                      · intro w hSw; (try dsimp only at hSw); go_simp; (try with_reducible rfl)
                      replace hInv := hide hInv'; clear hInv'; try simp only [Act.put, List.setIfInBounds_toArray, List.set_cons_zero, List.set_cons_succ]
                      refine wpAnyE_take (i := 29) (v := ?_) (List.getElem?_toArray.trans rfl) (by kernel_rfl) (by kernel_rfl) (by kernel_rfl) (by kernel_rfl) (fun _ _ _ h => h) (Or.inl ⟨by rfl, ?_⟩) hInv.out (by assumption) (fun hInv' => ?_)
                      rotate_left
                      · intro w hSw; (try dsimp only at hSw); go_simp; (try with_reducible rfl)
                      replace hInv := hide hInv'; clear hInv'; try simp only [Act.put, List.setIfInBounds_toArray, List.set_cons_zero, List.set_cons_succ]
                      refine wpAnyE_one (i := 30) (List.getElem?_toArray.trans rfl) (by kernel_rfl) (fun K hK => ?_) hInv.out
                      go_simp; refine (thW_any _ _ _).mono ?_; rintro e w5 ⟨rfl, rfl⟩; clear hHeld
                      have hHeld := key.out
                      refine hK.out _ _ (fun _ => hHeld) (fun hInv' => ?_)
                      clear hK K; replace hInv := hide (hInv' (by decide)); clear hInv'; try simp only [Act.put, List.setIfInBounds_toArray, List.set_cons_zero, List.set_cons_succ]
                      refine wpAnyE_one (i := 31) (List.getElem?_toArray.trans rfl) (by kernel_rfl) (fun K hK => ?_) hInv.out
                      go_simp; refine (orW_any _ _ _).mono ?_; rintro e w5 ⟨rfl, rfl⟩; clear hHeld
                      have hHeld := key.out
                      refine hK.out _ _ (fun _ => hHeld) (fun hInv' => ?_)
                      clear hK K; replace hInv := hide (hInv' (by decide)); clear hInv'; try simp only [Act.put, List.setIfInBounds_toArray, List.set_cons_zero, List.set_cons_succ]
                      refine wpAnyE_take (i := 32) (v := ?_) (List.getElem?_toArray.trans rfl) (by kernel_rfl) (by kernel_rfl) (by kernel_rfl) (by kernel_rfl) (fun _ _ _ h => h) (Or.inl ⟨by rfl, ?_⟩) hInv.out (by assumption) (fun hInv' => ?_)
                      rotate_left
                      · intro w hSw; (try dsimp only at hSw); go_simp; (try with_reducible rfl)
                      replace hInv := hide hInv'; clear hInv'; try simp only [Act.put, List.setIfInBounds_toArray, List.set_cons_zero, List.set_cons_succ]
                      refine wpAnyE_one (i := 33) (List.getElem?_toArray.trans rfl) (by kernel_rfl) (fun K hK => ?_) hInv.out
                      (try dsimp only at hHeld); go_simp
                      refine hK.out _ _ (fun h => absurd rfl h) (fun _ => ?_)
                      clear hK K hInv; try simp only [Act.put, List.setIfInBounds_toArray, List.set_cons_zero, List.set_cons_succ]
                      refine wpAnyE_done (by kernel_rfl) ?_ _
                      go_wp2
                      go_roundw
                      case rel =>
                        refine ⟨j1 + 1, wcell max min k i1 mj j1, by omega, by go_num, ?_, ?_⟩
                        · rw [hmj.out]
                          exact hide rfl
                        · have hfin := hJj.out.set i1 j1 hil hil hjl r0 r2 (max (mj i1 j1) (min (mj i1 k) (mj k j1)))
                          exact hide (show WInv w n _ _ cap n (upm mj i1 j1 (max (mj i1 j1) (min (mj i1 k) (mj k j1)))) _ from (by first | exact hfin.drew | simpa  using hfin.drew))
                      case measure => simp [intOf]; omega
                    · obtain rfl : n = j1 := by omega
                      go_wp2
                      go_roundw
                      case rel =>
                        refine ⟨i1 + 1, mj, by omega, by go_num, ?_, hJj⟩
                        rw [hmj.out, hmi.out]
                        exact hide rfl
                      case measure => simp [intOf]; omega
                · obtain rfl : n = i1 := by omega
                  go_wp2
                  go_roundw
                  case rel =>
                    refine ⟨k + 1, mi, by omega, by go_num, ?_, hJi⟩
                    rw [hmi.out, hmk.out]
                    exact hide rfl
                  case measure => simp [intOf]; omega
            · obtain rfl : n = k := by omega
              go_wp2
              go_ret
              have e : mk = Wtab n (nes es) := by rw [hmk.out, hm2]; rfl
              refine ⟨_, rfl, ?_, hJk.out.2.2.2⟩
              rw [← e]
              exact hJk.out.2.2.1.base_le (by omega)
end Go.Proofs.Ytcehdpeeaogpiaa
