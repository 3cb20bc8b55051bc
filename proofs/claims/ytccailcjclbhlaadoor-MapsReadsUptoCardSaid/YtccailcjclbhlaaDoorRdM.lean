/-
  What the reference's ReadMap returns: the same. Condition: the text is not longer than 1048576 bytes.
-/
import Derived.Test.YtccailcjclbhlaaDoorRdW
namespace Go.Proofs.YtccailcjclbhlaaDoor
open Go.RowKit
set_option linter.unusedSimpArgs false
set_option linter.unusedVariables false
theorem split_head (s : ByteArray) (l : List UInt8) (hl : s.data.toList = l) : Lib.countB s ⟨#[10]⟩ = l.count 10 ∧ ∃ hd tl, Lib.splitB ⟨#[10]⟩ 0 (Lib.countB s ⟨#[10]⟩) s = hd :: tl ∧ hd.size ≤ s.size ∧ (∀ x : Nat, Lib.indexByte l 10 = (x : Int) → hd.size = x) := by
  have hc : Lib.countB s ⟨#[10]⟩ = l.count 10 := by
    show Lib.count s.data.toList [10] = _
    rw [hl]
    exact Lib.count_one 10 l
  have hix : Lib.indexB s ⟨#[10]⟩ = Lib.indexByte l 10 := by
    show Lib.index s.data.toList [10] = _
    rw [hl]
    exact Lib.index_one l 10
  have hn : s.size = l.length := by rw [← hl]; exact Array.length_toList.symm
  refine ⟨hc, ?_⟩
  rw [hc]
  rcases Int.lt_or_le (Lib.indexByte l 10) 0 with h | h
  · have hge := Lib.indexByte_ge l 10
    have h1 : Lib.indexByte l 10 = -1 := by omega
    exact ⟨s, [], Lib.splitB_miss _ _ _ _ (by rw [hix, h1]), Nat.le_refl _, fun x hx => by omega⟩
  · obtain ⟨x, hx⟩ := Int.eq_ofNat_of_zero_le h
    have hs := (Lib.indexByte_some hx).1
    have hxl : x < l.length := by
      rcases Nat.lt_or_ge x l.length with h2 | h2
      · exact h2
      · rw [List.getElem?_eq_none h2] at hs; cases hs
    have hpos : 0 < l.count 10 := List.count_pos_iff.2 (List.mem_of_getElem? hs)
    obtain ⟨k, hk⟩ : ∃ k, l.count 10 = k + 1 := ⟨l.count 10 - 1, by omega⟩
    rw [hk]
    refine ⟨_, _, Lib.splitB_hit _ _ _ _ x (by rw [hix, hx]), ?_, fun y hy => ?_⟩
    · rw [ByteArray.size_extract]; omega
    · rw [ByteArray.size_extract]
      omega
set_option maxRecDepth 100000 in
set_option maxHeartbeats 4000000 in
theorem rread_any (s : ByteArray) (l : List UInt8) (hl : s.data.toList = l) (hs : s.size ≤ 1048576) (m0 : Int) (w : World) (hz0 : 0 < w.heap.size) (hm0 : w.cell? ⟨0, 0, none⟩ = some (.int .i64 m0)) : Calls Tryd.prog 5 #[.string s] w (RdAns l w) := by
  have hln : l.length = s.size := by rw [← hl]; exact Array.length_toList
  obtain ⟨hc, hd, tl, hsp, hds, hdx⟩ := split_head s l hl
  have hSpl := hide (fun (w' : World) (hb : Below w.heap.size w w') => Tryd.strings_Split s ⟨#[10]⟩ m0 w' (by omega) (cu_below hb hm0 hz0) (by decide))
  rw [hsp] at hSpl
  rw [hc] at hSpl
  have hget := hide (fun (k : Nat) (hk : k < s.size) => (show l[k]? = some (s[k]'hk) from by
    have hk2 : k < s.data.toList.length := by rw [Array.length_toList]; exact hk
    rw [← hl, List.getElem?_eq_getElem hk2]
    rfl))
  have hHl : l.count 10 ≤ 1048576 := Nat.le_trans List.count_le_length (by omega)
  obtain ⟨H, hH⟩ : ∃ H, H = l.count 10 := ⟨_, rfl⟩
  rw [← hH] at hSpl hHl
  obtain ⟨W, hW⟩ : ∃ W, W = hd.size := ⟨_, rfl⟩
  replace hl := hide hl
  replace hln := hide hln
  replace hsp := hide hsp
  replace hdx := hide hdx
  replace hH := hide hH
  clear hc
  go_enter Tryd.func5, Tryd.ntmps5
  go_wp2_with fail
  refine (hSpl.out _ (by repeat (first | with_reducible exact Below.refl _ _ | with_reducible assumption | with_reducible refine up_drewN ?_ | with_reducible refine up_drew ?_ | (with_reducible refine up_alloc ?_ ?_; rotate_left; (first | omega | (simp <;> omega) | simp)) | (with_reducible refine up_set ?_ ?_; rotate_left; (first | omega | (simp <;> omega) | simp)) | (with_reducible refine Below.trans ?_ (Below.mono (by with_reducible assumption) ?_); rotate_left; (first | omega | (simp <;> omega) | simp))))).mono ?_
  rintro e w1 ⟨rfl, rfl⟩
  go_wp2_with fail
  obtain ⟨w0, hw0⟩ : ∃ w0, w0 = ((w.alloc (.cells #[.int .i64 0, .int .i64 0, .slice none 0 0] 24)).alloc (.cells (Value.string hd :: List.map Value.string tl).toArray 9)) := ⟨_, rfl⟩
  obtain ⟨p, hp⟩ : ∃ p, p = w.heap.size + 1 + 1 := ⟨_, rfl⟩
  have hp0 : p = w0.heap.size := by rw [hp, hw0]; simp
  simp only [← hW]
  have hG0 := hide (RG.fresh (p := p) (W := (W : Int)) (H := (H : Int)) (t := 24) w0 hp0)
  have hbw0 : Below w.heap.size w w0 := by rw [hw0]; exact up_alloc (up_alloc (Below.refl _ _) (Nat.le_refl _)) (by simp)
  have k0h := hide (show w0.cell? ⟨w.heap.size, 0, none⟩ = some (.int .i64 0) by rw [hw0]; simp [go_sem])
  have k1h := hide (show w0.cell? ⟨w.heap.size, 1, none⟩ = some (.int .i64 0) by rw [hw0]; simp [go_sem])
  have k2h := hide (show w0.cell? ⟨w.heap.size, 2, none⟩ = some (.slice none 0 0) by rw [hw0]; simp [go_sem])
  have kfh := hide (show ∀ o, w0.frozen? ⟨w.heap.size, o, none⟩ = false from fun o => by rw [hw0]; simp [go_sem])
  simp only [← hw0]
  simp only [← hp]
  have hpw : w.heap.size < p := by omega
  have hW' := hide (show (∀ x : Nat, Lib.indexByte l 10 = (x : Int) → W = x) from fun x hx => by rw [hW]; exact hdx.out x hx)
  have hWle : W ≤ 1048576 := by omega
  replace hbw0 := hide hbw0
  replace hw0 := hide hw0
  replace hp := hide hp
  replace hp0 := hide hp0
  replace hW := hide hW
  clear hSpl
  go_loopw [20] (fun s20 wr => ∃ (k : Nat) (av : Option Addr) (m cv : Nat), k ≤ s.size ∧ s20 = .int .i64 (k : Int) ∧ Hid (m = (cellsL (l.take k)).length) ∧ m ≤ k ∧ Hid (RG p W H w0 (.slice av m cv) (cellsL (l.take k)) wr)) (fun s20 _ => s.size - (intOf s20).toNat)
  case atStart => exact ⟨0, none, 0, 0, Nat.zero_le _, rfl, hide rfl, Nat.le_refl _, hG0⟩
  case round =>
    clear hG0
    obtain ⟨k, av, m, cv, hk, rfl, hm, hmk, hG⟩ := hrel
    have zr := hG.out.lt
    by_cases hlt : k < s.size
    · have hlk := hget.out k hlt
      have hkl : k < l.length := by rw [hln.out]; exact hlt
      have hlg : l[k] = s[k] := by rw [List.getElem?_eq_getElem hkl] at hlk; exact Option.some.inj hlk
      have hcs := cellsL_step hkl
      rw [hlg] at hcs
      have hbd := sgI_bd s[k]
      obtain ⟨c, hc⟩ : ∃ c, c = sgI s[k] := ⟨_, rfl⟩
      rw [← hc] at hcs hbd
      have hSg := hide (fun (w' : World) => sign_any s[k] c hc w')
      have hsz : s.size ≤ 9223372036854775807 := by omega
      replace hlk := hide hlk
      replace hlg := hide hlg
      replace hc := hide hc
      by_cases hc0 : 0 ≤ c
      · rw [if_pos hc0] at hcs
        have hcs2 := hide hcs
        have g2 := hG.out.c2
        have gf := hG.out.f2
        have zp : p + 1 ≤ wr.heap.size := by omega
        clear hcs
        go_wp2_with fail
        refine (hSg.out _).mono ?_
        rintro e w3 ⟨rfl, rfl⟩
        go_wp2_with (at_builtin; (refine wpList_push (e := 3) (enc := encI) (xs := cellsL (l.take k)) (v := .slice av (m) cv) (base := p + 1) rfl (.tmp 30) (.tmp 32) 22 rfl _ 8 Tryd.underlying22 info_int rfl ?d11 lenI oneI (m) ?d21 ?d31 ?d41 ⟨w3.heap.size, 0, none⟩ 1 c ?d51 ?d61 ?d71 ?d81 ?d91 ?_); (case d11 => omega); (case d21 => exact hm.out.symm); (case d31 => rfl); (case d41 => exact (hG.out.own.alloc _)); (case d51 => rfl); (case d61 => exact newI _ _ _ _ rfl); (case d71 => omega); (case d81 => unfold maxLen; omega); (case d91 => first | omega | (simp; done) | (simp; omega)); intro g1 c1 w1 own1 hb1 hgr1 hg1 hgl1; have hB9 := hide (unalloc hb1 (by omega) : Below (p + 1) w3 w1); have hx9 := cu_below hb1 (cu_alloc g2) (by simp); have hf9 := fu_below hb1 (fu_alloc gf) (by simp); have hz9 : p < w1.heap.size := cell_lt hx9; replace own1 := hide own1; replace hb1 := hide hb1; replace hgr1 := hide hgr1)
        have hG2 := hide (hG.out.push own1.out hB9.out)
        go_roundw
        case rel => exact ⟨k + 1, _, m + 1, _, by omega, by go_num, hide (by rw [hcs2.out, List.length_append, ← hm.out]; rfl), by omega, by rw [hcs2.out]; exact hG2⟩
        case measure => simp [intOf]; omega
      · rw [if_neg hc0] at hcs
        have hcs2 := hide hcs
        have hcn : c < 0 := by omega
        clear hcs
        go_wp2_with fail
        refine (hSg.out _).mono ?_
        rintro e w3 ⟨rfl, rfl⟩
        go_wp2
        go_roundw
        case rel => exact ⟨k + 1, av, m, cv, by omega, by go_num, hide (by rw [hcs2.out]; exact hm.out), by omega, by rw [hcs2.out]; exact hG⟩
        case measure => simp [intOf]; omega
    · obtain rfl : k = s.size := by omega
      have hcl : l.take s.size = l := by rw [← hln.out, List.take_length]
      rw [hcl] at hm hG
      replace hcl := hide hcl
      have hrow := own_rowG hG.out.own
      have kb := hG.out.kp
      have g0 := hG.out.c0
      have g1 := hG.out.c1
      have g2 := hG.out.c2
      have hml : m ≤ 9223372036854775807 := by omega
      have hGr := hide (fun (w' : World) (hb : Below wr.heap.size wr w') => (by have := rgrid_any (W : Int) (H : Int) av cv (cellsL l) w' wr.heap.size hb.size (hrow.below hb (Nat.le_refl _)) (by rw [← hm.out]; exact hml); rw [← hm.out] at this; exact this : Calls Tryd.prog 9 #[.agg #[.int .i64 (W : Int), .int .i64 (H : Int), .slice av m cv]] w' (fun e w'' => e = .returned (.int .i64 (gridErr (W : Int) (H : Int) (cellsL l))) ∧ Below w'.heap.size w' w'')))
      have hMp := hide (fun (h0 : gridErr (W : Int) (H : Int) (cellsL l) = 0) (w' : World) (hb : Below wr.heap.size wr w') => (by have := rmap_any W H av cv (cellsL l) w' wr.heap.size hb.size (hrow.below hb (Nat.le_refl _)) h0; rw [← hm.out] at this; exact this : Calls Tryd.prog 10 #[.agg #[.int .i64 (W : Int), .int .i64 (H : Int), .slice av m cv]] w' (fun e w'' => e = .returned (.string ⟨(printTo W (cellsL l) m).toArray⟩) ∧ Below w'.heap.size w' w'')))
      have hno0 := hide (show ¬ refOk l W H → ∀ W, ¬ RdAll l W from fun h W' hA => h (by
        have h1 := hW'.out W' hA.ix
        subst h1
        rw [hH.out]
        exact (ref_iff hA.ix.symm).2 hA))
      obtain ⟨ge, hge⟩ : ∃ ge, ge = gridErr (W : Int) (H : Int) (cellsL l) := ⟨_, rfl⟩
      rw [← hge] at hGr
      by_cases h0 : ge = 0
      · subst h0
        have hMp2 := hide (hMp.out hge.symm)
        obtain ⟨S, hS⟩ : ∃ S : ByteArray, S = ⟨(printTo W (cellsL l) m).toArray⟩ := ⟨_, rfl⟩
        rw [← hS] at hMp2
        have hSl : S = s ↔ printTo W (cellsL l) (cellsL l).length = l := by
          rw [hS, ← hm.out]
          constructor
          · intro h
            have h2 := congrArg (fun b : ByteArray => b.data.toList) h
            simp only [hl.out] at h2
            exact h2
          · intro h
            rw [h]
            apply ByteArray.ext
            rw [← hl.out]
        have hge' := hide hge
        replace hS := hide hS
        clear hge hMp hrow
        go_wp2_with fail
        refine (hGr.out _ (Below.refl _ _)).mono ?_
        rintro e w3 ⟨rfl, hb3⟩
        have hG3 := hide (hG.out.stays hb3)
        have g0 := hG3.out.c0
        have g1 := hG3.out.c1
        have g2 := hG3.out.c2
        have z3 := hG3.out.lt
        go_wp2_with fail
        refine (hMp2.out _ hb3).mono ?_
        rintro e w4 ⟨rfl, hb4⟩
        have hG4 := hide (hG3.out.stays hb4)
        have g0 := hG4.out.c0
        have g1 := hG4.out.c1
        have g2 := hG4.out.c2
        have z4 := hG4.out.lt
        have kb := hG4.out.kp
        have k0 := cu_below kb k0h.out (cell_lt k0h.out)
        have k1 := cu_below kb k1h.out (cell_lt k1h.out)
        have k2 := cu_below kb k2h.out (cell_lt k2h.out)
        have kz : w.heap.size < w4.heap.size := cell_lt k0
        have kf := fun o => fu_below (p := ⟨w.heap.size, o, none⟩) kb (kfh.out o) (show w.heap.size < w0.heap.size from cell_lt k0h.out)
        have hbf := hide (hbw0.out.trans (kb.mono hbw0.out.size))
        clear hb3 hb4 hGr hMp2 hG hG3
        by_cases hE : S = s
        · have hA : RdAll l W := by
            have h1 := rd_back hge'.out.symm (hSl.1 hE)
            exact h1
          have hHd : H = l.length / (W + 1) := by rw [hH.out]; exact (rd_good hA).1
          replace hA := hide hA
          replace hHd := hide hHd
          have hE2 := hide hE
          subst hE
          have hRow := hide (own_rowG ((((hG4.out.own.elsewhere (p := ⟨w.heap.size, 0, none⟩) (fun e => by have := (hG4.out.own.block_lt _ e).1; simp at this; omega) (.int .i64 (W : Int))).elsewhere (p := ⟨w.heap.size, 1, none⟩) (fun e => by have := (hG4.out.own.block_lt _ e).1; simp at this; omega) (.int .i64 (H : Int))).elsewhere (p := ⟨w.heap.size, 2, none⟩) (fun e => by have := (hG4.out.own.block_lt _ e).1; simp at this; omega) (.slice av m cv))))
          clear kb hSl
          go_wp2
          refine bodyPost_ret (v := .tuple #[.agg #[.int .i64 (W : Int), .int .i64 (H : Int), .slice av m cv], .int .i64 0]) (by simp [results, Tryd.results5, go_sem, k0, k1, k2, kz]) rfl ⟨by repeat (first | exact hbf.out | (refine Below.setCell ?_ (by simp; (try omega)) _)), .inr ⟨W, av, m, cv, hA.out, by rw [← hHd.out], hm.out, hRow.out⟩⟩
        · have hno := hide (hno0.out (fun h => hE (hSl.2 h.2)))
          have q1 : (S.toList == s.toList) = false := by
            rw [beq_eq_false_iff_ne, ne_eq, ByteArray.toList_eq, ByteArray.toList_eq]
            intro e
            apply hE
            apply ByteArray.ext
            exact Array.toList_inj.1 e
          replace hE := hide hE
          clear kb hSl
          go_wp2
          refine bodyPost_ret (v := .tuple #[.agg #[.int .i64 0, .int .i64 0, .slice none 0 0], .int .i64 9]) (by simp [results, Tryd.results5, go_sem, k0, k1, k2, kz]) rfl ⟨by repeat (first | exact hbf.out | (refine Below.setCell ?_ (by simp; (try omega)) _)), .inl ⟨hno.out, rfl⟩⟩
      · have hno := hide (hno0.out (fun h => h0 (by rw [hge]; exact h.1)))
        have q0 : (ge != 0) = true := by simp [h0]
        replace hge := hide hge
        replace h0 := hide h0
        clear hMp hrow
        go_wp2_with fail
        refine (hGr.out _ (Below.refl _ _)).mono ?_
        rintro e w3 ⟨rfl, hb3⟩
        have hG3 := hide (hG.out.stays hb3)
        have kb := hG3.out.kp
        have k0 := cu_below kb k0h.out (cell_lt k0h.out)
        have k1 := cu_below kb k1h.out (cell_lt k1h.out)
        have k2 := cu_below kb k2h.out (cell_lt k2h.out)
        have kz : w.heap.size < w3.heap.size := cell_lt k0
        have kf := fun o => fu_below (p := ⟨w.heap.size, o, none⟩) kb (kfh.out o) (show w.heap.size < w0.heap.size from cell_lt k0h.out)
        have hbf := hide (hbw0.out.trans (kb.mono hbw0.out.size))
        go_wp2
        refine bodyPost_ret (v := .tuple #[.agg #[.int .i64 0, .int .i64 0, .slice none 0 0], .int .i64 9]) (by simp [results, Tryd.results5, go_sem, k0, k1, k2, kz]) rfl ⟨by repeat (first | exact hbf.out | (refine Below.setCell ?_ (by simp; (try omega)) _)), .inl ⟨hno.out, rfl⟩⟩
end Go.Proofs.YtccailcjclbhlaaDoor
