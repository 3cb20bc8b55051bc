/-
  What maps.Read returns. Condition: the text is not longer than 1048576 bytes.
-/
import Derived.Test.YtccailcjclbhlaaDoorRdP
import Derived.Test.YtccailcjclbhlaaDoorShlD
import Derived.Test.YtccailcjclbhlaaDoorPlainB
import Derived.Deep.DeepCutAuto
namespace Go.Proofs.YtccailcjclbhlaaDoor
open Go.RowKit
set_option linter.unusedSimpArgs false
set_option linter.unusedVariables false
def RdAns (l : List UInt8) (w : World) (e : Ending) (w' : World) : Prop :=
  Below w.heap.size w w' ∧ (((∀ W, ¬ RdAll l W) ∧ e = .returned (.tuple #[.agg #[.int .i64 0, .int .i64 0, .slice none 0 0], .int .i64 9])) ∨
    ∃ (W : Nat) (a : Option Addr) (m c : Nat), RdAll l W ∧ e = .returned (.tuple #[.agg #[.int .i64 (W : Int), .int .i64 ((l.length / (W + 1) : Nat) : Int), .slice a m c], .int .i64 0]) ∧ m = (cellsL l).length ∧ Row encI 1 w' w'.heap.size a (cellsL l))
/-- the grid that grows, at block p, laid in the world w0 -/
structure RG (p : Nat) (W H : Int) (w0 : World) (v : Value) (xs : List Int) (wr : World) : Prop where
  c0 : wr.cell? ⟨p, 0, none⟩ = some (.int .i64 W)
  c1 : wr.cell? ⟨p, 1, none⟩ = some (.int .i64 H)
  c2 : wr.cell? ⟨p, 2, none⟩ = some v
  f2 : wr.frozen? ⟨p, 2, none⟩ = false
  own : Own encI 1 3 wr (p + 1) v xs
  kp : Below w0.heap.size w0 wr
  at0 : p = w0.heap.size
section
variable {p : Nat} {W H : Int} {w0 wr w' : World} {v v' : Value} {xs : List Int} {y : Int}
theorem RG.lt (h : RG p W H w0 v xs wr) : p < wr.heap.size := cell_lt h.c0
theorem RG.stays (h : RG p W H w0 v xs wr) (b : Below wr.heap.size wr w') : RG p W H w0 v xs w' :=
  have hl := h.lt
  ⟨cu_below b h.c0 hl, cu_below b h.c1 hl, cu_below b h.c2 hl, fu_below b h.f2 hl, h.own.stays b, h.kp.trans (b.mono h.kp.size), h.at0⟩
theorem RG.push (h : RG p W H w0 v xs wr) (own : Own encI 1 3 w' (p + 1) v' (xs ++ [y])) (b : Below (p + 1) wr w') : RG p W H w0 v' (xs ++ [y]) (w'.setCell ⟨p, 2, none⟩ v') := by
  have h0 := h.at0
  refine ⟨cu_set_off (cu_below b h.c0 (by simp)) (by omega), cu_set_off (cu_below b h.c1 (by simp)) (by omega), World.cell?_setCell_same _ _ _ (cu_below b h.c2 (by simp)), fu_set (fu_below b h.f2 (by simp)), own.setCell (by simp) _, ?_, h0⟩
  exact (h.kp.trans (b.mono (by omega))).setCell (by simp; omega) _
theorem RG.fresh {t : TypeId} (w0 : World) (h : p = w0.heap.size) : RG p W H w0 (.slice none 0 0) [] (w0.alloc (.cells #[.int .i64 W, .int .i64 H, .slice none 0 0] t)) := by
  subst h
  exact ⟨by simp [go_sem], by simp [go_sem], by simp [go_sem], by simp [go_sem], Own.nil _ _, up_alloc (Below.refl _ _) (Nat.le_refl _), rfl⟩
end
theorem u8_back (b : UInt8) : ((b.toNat : Int)).toNat.toUInt8 = b := by simp
theorem sign_any (b : UInt8) (c : Int) (hc : c = sgI b) (w : World) : Calls Tryd.prog 7 #[.string ⟨#[35, 49, 50, 51, 52, 53, 54, 55, 56, 57]⟩, .int .u8 (b.toNat : Int)] w fun e w' => e = .returned (.int .i64 c) ∧ w' = w := by
  have := Tryd.strings_IndexByte ⟨#[35, 49, 50, 51, 52, 53, 54, 55, 56, 57]⟩ (b.toNat : Int) w
  rw [u8_back] at this
  rw [hc]
  exact this
theorem own_rowG {e : TypeId} {w : World} {base n c : Nat} {a : Option Addr} {xs : List Int} (h : Own encI 1 e w base (.slice a n c) xs) : Row encI 1 w w.heap.size a xs := by
  obtain ⟨a', c', hv, hr, _⟩ := h.row lenI
  injection hv with q1 q2 q3
  subst q1
  exact hr
set_option maxRecDepth 100000 in
set_option maxHeartbeats 4000000 in
theorem read_any (s : ByteArray) (l : List UInt8) (hl : s.data.toList = l) (hs : s.size ≤ 1048576) (w : World) : Calls Tryd.prog 4 #[.string s] w (RdAns l w) := by
  have hln : l.length = s.size := by rw [← hl]; exact Array.length_toList
  have hIx := hide (fun (w : World) => (by have := Tryd.strings_IndexByte s 10 w; rw [hl] at this; exact this : Calls Tryd.prog 7 #[.string s, .int .u8 10] w fun e w' => e = .returned (.int .i64 (Lib.indexByte l 10)) ∧ w' = w))
  have hge := Lib.indexByte_ge l 10
  obtain ⟨x, hx⟩ : ∃ x, x = Lib.indexByte l 10 := ⟨_, rfl⟩
  rw [← hx] at hIx hge
  have hget := hide (fun (k : Nat) (hk : k < s.size) => (show l[k]? = some (s[k]'hk) from by
    have hk2 : k < s.data.toList.length := by rw [Array.length_toList]; exact hk
    rw [← hl, List.getElem?_eq_getElem hk2]
    rfl))
  replace hl := hide hl
  replace hln := hide hln
  go_enter Tryd.func4, Tryd.ntmps4
  go_wp2_with fail
  refine (hIx.out _).mono ?_
  rintro e w1 ⟨rfl, rfl⟩
  rcases Int.lt_or_le x 1 with h1 | h1
  · have hno := hide (show ∀ W, ¬ RdAll l W from fun W h => by have := h.ix; have := h.lo; omega)
    replace hx := hide hx
    go_wp2
    refine bodyPost_ret (v := .tuple #[.agg #[.int .i64 0, .int .i64 0, .slice none 0 0], .int .i64 9]) (by simp [results, Tryd.results4, go_sem]) rfl ⟨(by repeat (first | with_reducible exact Below.refl _ _ | with_reducible assumption | with_reducible refine up_drewN ?_ | with_reducible refine up_drew ?_ | (with_reducible refine up_alloc ?_ ?_; rotate_left; (first | omega | (simp <;> omega) | simp)) | (with_reducible refine up_set ?_ ?_; rotate_left; (first | omega | (simp <;> omega) | simp)) | (with_reducible refine Below.trans ?_ (Below.mono (by with_reducible assumption) ?_); rotate_left; (first | omega | (simp <;> omega) | simp)))), .inl ⟨hno.out, rfl⟩⟩
  · rcases Int.lt_or_le 8 x with h2 | h2
    · have hno := hide (show ∀ W, ¬ RdAll l W from fun W h => by have := h.ix; have := h.hi; omega)
      replace hx := hide hx
      go_wp2
      refine bodyPost_ret (v := .tuple #[.agg #[.int .i64 0, .int .i64 0, .slice none 0 0], .int .i64 9]) (by simp [results, Tryd.results4, go_sem]) rfl ⟨(by repeat (first | with_reducible exact Below.refl _ _ | with_reducible assumption | with_reducible refine up_drewN ?_ | with_reducible refine up_drew ?_ | (with_reducible refine up_alloc ?_ ?_; rotate_left; (first | omega | (simp <;> omega) | simp)) | (with_reducible refine up_set ?_ ?_; rotate_left; (first | omega | (simp <;> omega) | simp)) | (with_reducible refine Below.trans ?_ (Below.mono (by with_reducible assumption) ?_); rotate_left; (first | omega | (simp <;> omega) | simp)))), .inl ⟨hno.out, rfl⟩⟩
    · obtain ⟨W, rfl⟩ := Int.eq_ofNat_of_zero_le (show 0 ≤ x by omega)
      have hw1 : IntKind.i64.wrap ((W : Int) + 1) = (W : Int) + 1 := by rw [IntKind.wrap_i64]; omega
      have hW0 : ¬ ((W : Int) + 1 = 0) := by omega
      obtain ⟨H, hH⟩ : ∃ H, H = s.size / (W + 1) := ⟨_, rfl⟩
      have hHle : H ≤ 1048576 := by rw [hH]; exact Nat.le_trans (Nat.div_le_self _ _) hs
      have hdv : (s.size : Int) / ((W : Int) + 1) = (H : Int) := by rw [hH]; simp
      have hdw : wrap64 ((s.size : Int) / ((W : Int) + 1)) = (H : Int) := by rw [hdv]; unfold wrap64; omega
      obtain ⟨R, hR⟩ : ∃ R, R = s.size % (W + 1) := ⟨_, rfl⟩
      have hmd : (s.size : Int) % ((W : Int) + 1) = (R : Int) := by rw [hR]; simp
      by_cases hR0 : R = 0
      · have hr0 : (s.size : Int) % ((W : Int) + 1) = 0 := by rw [hmd, hR0]; rfl
        by_cases hH8 : 8 < H
        · have hno := hide (show ∀ W, ¬ RdAll l W from fun W' h => by
            have h3 := h.ix
            have : W' = W := by omega
            subst this
            have := h.dv
            rw [hln.out, ← hH] at this
            omega)
          have hH8i : (8 : Int) < (H : Int) := by omega
          replace hx := hide hx
          replace hH := hide hH
          replace hR := hide hR
          replace hmd := hide hmd
          replace hdv := hide hdv
          replace hR0 := hide hR0
          go_wp2
          refine bodyPost_ret (v := .tuple #[.agg #[.int .i64 0, .int .i64 0, .slice none 0 0], .int .i64 9]) (by simp [results, Tryd.results4, go_sem]) rfl ⟨(by repeat (first | with_reducible exact Below.refl _ _ | with_reducible assumption | with_reducible refine up_drewN ?_ | with_reducible refine up_drew ?_ | (with_reducible refine up_alloc ?_ ?_; rotate_left; (first | omega | (simp <;> omega) | simp)) | (with_reducible refine up_set ?_ ?_; rotate_left; (first | omega | (simp <;> omega) | simp)) | (with_reducible refine Below.trans ?_ (Below.mono (by with_reducible assumption) ?_); rotate_left; (first | omega | (simp <;> omega) | simp)))), .inl ⟨hno.out, rfl⟩⟩
        · have hH8i : (H : Int) ≤ 8 := by omega
          have hW8 : W ≤ 8 := by omega
          replace hx := hide hx
          replace hH := hide hH
          replace hR := hide hR
          replace hmd := hide hmd
          replace hdv := hide hdv
          replace hR0 := hide hR0
          go_wp2_with fail
          have d1 : decide ((W : Int) < 1) = false := by simp; omega
          have d2 : decide (8 < (W : Int)) = false := by simp; omega
          have d3 : decide (8 < (H : Int)) = false := by simp; omega
          simp only [hdw, d1, d2, d3, Bool.or_false, Bool.false_or]
          replace hdw := hide hdw
          replace hr0 := hide hr0
          replace d1 := hide d1
          replace d2 := hide d2
          replace d3 := hide d3
          obtain ⟨w0, hw0⟩ : ∃ w0, w0 = w.alloc (.cells #[.int .i64 0, .int .i64 0, .slice none 0 0] 24) := ⟨_, rfl⟩
          obtain ⟨p, hp⟩ : ∃ p, p = w.heap.size + 1 := ⟨_, rfl⟩
          have hp0 : p = w0.heap.size := by rw [hp, hw0]; simp
          have hG0 := hide (RG.fresh (p := p) (W := (W : Int)) (H := (H : Int)) (t := 24) w0 hp0)
          have hbw0 : Below w.heap.size w w0 := by rw [hw0]; exact up_alloc (Below.refl _ _) (Nat.le_refl _)
          have k0 : w0.cell? ⟨w.heap.size, 0, none⟩ = some (.int .i64 0) := by rw [hw0]; simp [go_sem]
          have k1 : w0.cell? ⟨w.heap.size, 1, none⟩ = some (.int .i64 0) := by rw [hw0]; simp [go_sem]
          have k2 : w0.cell? ⟨w.heap.size, 2, none⟩ = some (.slice none 0 0) := by rw [hw0]; simp [go_sem]
          have kf : ∀ o, w0.frozen? ⟨w.heap.size, o, none⟩ = false := fun o => by rw [hw0]; simp [go_sem]
          simp only [← hw0]
          simp only [← hp]
          have hpw : w.heap.size < p := by omega
          have k0h := hide k0
          have k0 := hide k0
          have k1 := hide k1
          have k2 := hide k2
          have kf := hide kf
          replace hbw0 := hide hbw0
          replace hw0 := hide hw0
          replace hp := hide hp
          replace hp0 := hide hp0
          go_loopw [42] (fun s42 wr => ∃ (k : Nat) (av : Option Addr) (m cv : Nat), k ≤ s.size ∧ s42 = .int .i64 (k : Int) ∧ Hid (m = (cellsL (l.take k)).length) ∧ m ≤ k ∧ Hid (RG p W H w0 (.slice av m cv) (cellsL (l.take k)) wr) ∧ Hid (∀ i, i < k → rdAt W l i)) (fun s42 _ => s.size - (intOf s42).toNat)
          case atStart => exact ⟨0, none, 0, 0, Nat.zero_le _, rfl, hide rfl, Nat.le_refl _, hG0, hide (fun i hi => absurd hi (by omega))⟩
          case round =>
            clear hG0
            obtain ⟨k, av, m, cv, hk, rfl, hm, hmk, hG, hall⟩ := hrel
            have zr := hG.out.lt
            by_cases hlt : k < s.size
            · have hlk := hget.out k hlt
              have hkl : k < l.length := by rw [hln.out]; exact hlt
              have hlg : l[k] = s[k] := by rw [List.getElem?_eq_getElem hkl] at hlk; exact Option.some.inj hlk
              have hcs := cellsL_step hkl
              rw [hlg] at hcs
              obtain ⟨X, hX⟩ : ∃ X, X = k % (W + 1) := ⟨_, rfl⟩
              have hkm : (k : Int) % ((W : Int) + 1) = (X : Int) := by rw [hX]; simp
              have hXle : X < W + 1 := by rw [hX]; exact Nat.mod_lt _ (by omega)
              have hbd := sgI_bd s[k]
              obtain ⟨c, hc⟩ : ∃ c, c = sgI s[k] := ⟨_, rfl⟩
              rw [← hc] at hcs hbd
              have hSg := hide (fun (w' : World) => sign_any s[k] c hc w')
              have hat := hide (show ((X = W → s[k] = 10) ∧ (X ≠ W → 0 ≤ c)) → ∀ i, i < k + 1 → rdAt W l i from fun h i hi => by
                rcases Nat.lt_or_ge i k with h1 | h1
                · exact hall.out i h1
                · obtain rfl : i = k := by omega
                  intro b hb
                  rw [hlk] at hb
                  obtain rfl := Option.some.inj hb
                  rw [← hX, ← hc]
                  exact h)
              have hnoA := hide (show ¬ ((X = W → s[k] = 10) ∧ (X ≠ W → 0 ≤ c)) → ∀ W, ¬ RdAll l W from fun h W' hA => h (by
                have h3 := hA.ix
                have : W' = W := by have := hx.out; omega
                subst this
                have := hA.ok k hkl s[k] hlk
                rw [← hX, ← hc] at this
                exact this))
              have hsz : s.size ≤ 9223372036854775807 := by omega
              replace hlk := hide hlk
              replace hlg := hide hlg
              replace hX := hide hX
              replace hc := hide hc
              have kb := hG.out.kp
              have k0 := cu_below kb k0.out (cell_lt k0.out)
              have k1 := cu_below kb k1.out (cell_lt k1.out)
              have k2 := cu_below kb k2.out (cell_lt k2.out)
              have kz : w.heap.size < wr.heap.size := cell_lt k0
              have kf := fun o => fu_below (p := ⟨w.heap.size, o, none⟩) kb (kf.out o) (show w.heap.size < w0.heap.size from cell_lt k0h.out)
              by_cases hXW : X = W
              · have q1 : ((X : Int) == (W : Int)) = true := by simp [hXW]
                by_cases hb : s[k] = 10
                · have q2 : ((s[k].toNat : Int) != 10) = false := by rw [hb]; rfl
                  have hcn : c = -1 := by rw [hc.out, hb]; exact sgI_line
                  rw [if_neg (by omega)] at hcs
                  have hcs2 := hide hcs
                  have hat2 := hide (hat.out ⟨fun _ => hb, fun h => absurd hXW h⟩)
                  clear hcs hat hnoA
                  replace hXW := hide hXW
                  replace hb := hide hb
                  replace hcn := hide hcn
                  go_wp2_with fail
                  refine (hSg.out _).mono ?_
                  rintro e w3 ⟨rfl, rfl⟩
                  go_wp2
                  go_roundw
                  case rel => exact ⟨k + 1, av, m, cv, by omega, by go_num, hide (by rw [hcs2.out]; exact hm.out), by omega, by rw [hcs2.out]; exact hG, hat2⟩
                  case measure => simp [intOf]; omega
                · have q2 : ((s[k].toNat : Int) != 10) = true := by
                    simp only [bne_iff_ne, ne_eq]
                    intro e
                    exact hb (UInt8.toNat_inj.1 (by simpa using (by omega : s[k].toNat = 10)))
                  have hno := hide (hnoA.out (fun h => hb (h.1 hXW)))
                  have hbf := hide (hbw0.out.trans (kb.mono hbw0.out.size))
                  clear hat hnoA hcs
                  replace hXW := hide hXW
                  replace hb := hide hb
                  go_wp2_with fail
                  refine (hSg.out _).mono ?_
                  rintro e w3 ⟨rfl, rfl⟩
                  go_wp2
                  refine bodyPost_ret (v := .tuple #[.agg #[.int .i64 0, .int .i64 0, .slice none 0 0], .int .i64 9]) (by simp [results, Tryd.results4, go_sem, k0, k1, k2, kz]) rfl ⟨by repeat (first | exact hbf.out | (refine Below.setCell ?_ (by simp; (try omega)) _)), .inl ⟨hno.out, rfl⟩⟩
              · have q1 : ((X : Int) == (W : Int)) = false := by simp; omega
                by_cases hc0 : c < 0
                · have hno := hide (hnoA.out (fun h => by have := h.2 hXW; omega))
                  have hbf := hide (hbw0.out.trans (kb.mono hbw0.out.size))
                  clear hat hnoA hcs
                  replace hXW := hide hXW
                  go_wp2_with fail
                  refine (hSg.out _).mono ?_
                  rintro e w3 ⟨rfl, rfl⟩
                  go_wp2
                  refine bodyPost_ret (v := .tuple #[.agg #[.int .i64 0, .int .i64 0, .slice none 0 0], .int .i64 9]) (by simp [results, Tryd.results4, go_sem, k0, k1, k2, kz]) rfl ⟨by repeat (first | exact hbf.out | (refine Below.setCell ?_ (by simp; (try omega)) _)), .inl ⟨hno.out, rfl⟩⟩
                · rw [if_pos (by omega)] at hcs
                  have hcs2 := hide hcs
                  have hat2 := hide (hat.out ⟨fun h => absurd h hXW, fun _ => by omega⟩)
                  have hc0' : 0 ≤ c := by omega
                  have g2 := hG.out.c2
                  have gf := hG.out.f2
                  have zp : p + 1 ≤ wr.heap.size := by omega
                  clear hcs hat hnoA kb
                  replace hXW := hide hXW
                  go_wp2_with fail
                  refine (hSg.out _).mono ?_
                  rintro e w3 ⟨rfl, rfl⟩
                  go_wp2_with (at_builtin; (refine wpList_push (e := 3) (enc := encI) (xs := cellsL (l.take k)) (v := .slice av (m) cv) (base := p + 1) rfl (.tmp 50) (.tmp 52) 22 rfl _ 8 Tryd.underlying22 info_int rfl ?d11 lenI oneI (m) ?d21 ?d31 ?d41 ⟨w3.heap.size, 0, none⟩ 1 c ?d51 ?d61 ?d71 ?d81 ?d91 ?_); (case d11 => omega); (case d21 => exact hm.out.symm); (case d31 => rfl); (case d41 => exact (hG.out.own.alloc _)); (case d51 => rfl); (case d61 => exact newI _ _ _ _ rfl); (case d71 => omega); (case d81 => unfold maxLen; omega); (case d91 => first | omega | (simp; done) | (simp; omega)); intro g1 c1 w1 own1 hb1 hgr1 hg1 hgl1; have hB9 := hide (unalloc hb1 (by omega) : Below (p + 1) w3 w1); have hx9 := cu_below hb1 (cu_alloc g2) (by simp); have hf9 := fu_below hb1 (fu_alloc gf) (by simp); have hz9 : p < w1.heap.size := cell_lt hx9; replace own1 := hide own1; replace hb1 := hide hb1; replace hgr1 := hide hgr1)
                  have hG2 := hide (hG.out.push own1.out hB9.out)
                  go_roundw
                  case rel => exact ⟨k + 1, _, m + 1, _, by omega, by go_num, hide (by rw [hcs2.out, List.length_append, ← hm.out]; rfl), by omega, by rw [hcs2.out]; exact hG2, hat2⟩
                  case measure => simp [intOf]; omega
            · obtain rfl : k = s.size := by omega
              have hA : RdAll l W := ⟨hx.out.symm, by omega, hW8, by rw [hln.out, ← hR.out, hR0.out], by rw [hln.out, ← hH.out]; omega, fun i hi => hall.out i (by rw [hln.out] at hi; exact hi)⟩
              replace hA := hide hA
              have hcl : l.take s.size = l := by rw [← hln.out, List.take_length]
              rw [hcl] at hm hG
              have hHd : H = l.length / (W + 1) := by rw [hH.out, hln.out]
              replace hHd := hide hHd
              replace hcl := hide hcl
              have kb := hG.out.kp
              have k0 := cu_below kb k0.out (cell_lt k0.out)
              have k1 := cu_below kb k1.out (cell_lt k1.out)
              have k2 := cu_below kb k2.out (cell_lt k2.out)
              have kz : w.heap.size < wr.heap.size := cell_lt k0
              have kf := fun o => fu_below (p := ⟨w.heap.size, o, none⟩) kb (kf.out o) (show w.heap.size < w0.heap.size from cell_lt k0h.out)
              have g0 := hG.out.c0
              have g1 := hG.out.c1
              have g2 := hG.out.c2
              have hbf := hide (hbw0.out.trans (kb.mono hbw0.out.size))
              have hRow := hide (own_rowG ((((hG.out.own.elsewhere (p := ⟨w.heap.size, 0, none⟩) (fun e => by have := (hG.out.own.block_lt _ e).1; simp at this; omega) (.int .i64 (W : Int))).elsewhere (p := ⟨w.heap.size, 1, none⟩) (fun e => by have := (hG.out.own.block_lt _ e).1; simp at this; omega) (.int .i64 (H : Int))).elsewhere (p := ⟨w.heap.size, 2, none⟩) (fun e => by have := (hG.out.own.block_lt _ e).1; simp at this; omega) (.slice av m cv))))
              clear kb
              go_wp2
              refine bodyPost_ret (v := .tuple #[.agg #[.int .i64 (W : Int), .int .i64 (H : Int), .slice av m cv], .int .i64 0]) (by simp [results, Tryd.results4, go_sem, k0, k1, k2, kz]) rfl ⟨by repeat (first | exact hbf.out | (refine Below.setCell ?_ (by simp; (try omega)) _)), .inr ⟨W, av, m, cv, hA.out, by rw [← hHd.out], hm.out, hRow.out⟩⟩
      · have hno := hide (show ∀ W, ¬ RdAll l W from fun W' h => by
          have h3 := h.ix
          have : W' = W := by omega
          subst this
          have := h.md
          rw [hln.out, ← hR] at this
          omega)
        have hr0 : ¬ ((s.size : Int) % ((W : Int) + 1) = 0) := by rw [hmd]; omega
        replace hx := hide hx
        replace hH := hide hH
        replace hR := hide hR
        replace hmd := hide hmd
        replace hdv := hide hdv
        go_wp2
        refine bodyPost_ret (v := .tuple #[.agg #[.int .i64 0, .int .i64 0, .slice none 0 0], .int .i64 9]) (by simp [results, Tryd.results4, go_sem]) rfl ⟨(by repeat (first | with_reducible exact Below.refl _ _ | with_reducible assumption | with_reducible refine up_drewN ?_ | with_reducible refine up_drew ?_ | (with_reducible refine up_alloc ?_ ?_; rotate_left; (first | omega | (simp <;> omega) | simp)) | (with_reducible refine up_set ?_ ?_; rotate_left; (first | omega | (simp <;> omega) | simp)) | (with_reducible refine Below.trans ?_ (Below.mono (by with_reducible assumption) ?_); rotate_left; (first | omega | (simp <;> omega) | simp)))), .inl ⟨hno.out, rfl⟩⟩
end Go.Proofs.YtccailcjclbhlaaDoor
