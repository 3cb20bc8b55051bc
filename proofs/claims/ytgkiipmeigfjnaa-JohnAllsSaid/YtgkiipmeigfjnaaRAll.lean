/-
  What the reference's All returns. Conditions: that the slice reads.
-/
import Derived.Test.YtgkiipmeigfjnaaROut
import Derived.Test.YtgkiipmeigfjnaaStart
import Derived.Test.YtgkiipmeigfjnaaNetChk
namespace Go.Proofs.Ytgkiipmeigfjnaa
open Go.RowKit
set_option linter.unusedSimpArgs false
set_option linter.unusedVariables false
theorem right_so {n : Nat} {es : List Ed} (h : netErr n es = 0) : Right n es := (netErr_ok h).2.2.2
/-- the rows: costs from each place -/
def distRows (n : Nat) (es : List Ed) (k : Nat) : List (List Int) := (List.range k).map fun v => LI n (distF n es v)
theorem distRows_len (n : Nat) (es : List Ed) (k : Nat) : (distRows n es k).length = k := by simp [distRows]
theorem distRows_succ (n : Nat) (es : List Ed) (k : Nat) : distRows n es (k + 1) = distRows n es k ++ [LI n (distF n es k)] := by simp [distRows, List.range_succ]
def TabBack (rows : List (List Int)) (m n : Nat) (err : Int) (w : World) (e : Ending) (w' : World) : Prop := ∃ a c, e = .returned (.tuple #[.slice a m c, .int .i64 err]) ∧ Tab w' w'.heap.size a n rows ∧ Below w.heap.size w w'
set_option maxRecDepth 100000 in
theorem rall_bad (N : Int) (a : Option Addr) (cap : Nat) (es : List Ed) (w : World) (B : Nat) (hB : B ≤ w.heap.size) (hE : Row encE 3 w B a es) (hl : es.length ≤ 9223372036854775807) (h0 : netErr N es ≠ 0) :
    Calls Try.prog 41 #[.agg #[.int .i64 N, .slice a es.length cap]] w fun e w' => e = .returned (.tuple #[.slice none 0 0, .int .i64 (netErr N es)]) ∧ Below w.heap.size w w' := by
  have q0 : (netErr N es != 0) = true := by simp [h0]
  replace hE := hide hE
  clear h0
  go_enter Try.func41, Try.ntmps41
  go_wp2_with fail
  refine (rnet_any N a cap es _ B (by simp <;> omega) (hE.out.below ((by repeat (first | with_reducible exact Below.refl _ _ | with_reducible assumption | with_reducible refine up_drewN ?_ | with_reducible refine up_drew ?_ | (with_reducible refine up_alloc ?_ ?_; rotate_left; (first | omega | (simp <;> omega) | simp)) | (with_reducible refine up_set ?_ ?_; rotate_left; (first | omega | (simp <;> omega) | simp)) | (with_reducible refine Below.trans ?_ (Below.mono (by with_reducible assumption) ?_); rotate_left; (first | omega | (simp <;> omega) | simp)))) : Below w.heap.size w _) hB) hl).mono ?_
  rintro e w1 ⟨rfl, hb1⟩
  go_wp2
  go_ret2
  exact ⟨rfl, (by repeat (first | with_reducible exact Below.refl _ _ | with_reducible assumption | with_reducible refine up_drewN ?_ | with_reducible refine up_drew ?_ | (with_reducible refine up_alloc ?_ ?_; rotate_left; (first | omega | (simp <;> omega) | simp)) | (with_reducible refine up_set ?_ ?_; rotate_left; (first | omega | (simp <;> omega) | simp)) | (with_reducible refine Below.trans ?_ (Below.mono (by with_reducible assumption) ?_); rotate_left; (first | omega | (simp <;> omega) | simp))))⟩
set_option maxRecDepth 100000 in
set_option maxHeartbeats 2000000 in
theorem rall_cycle (n : Nat) (a : Option Addr) (cap : Nat) (es : List Ed) (w : World) (B : Nat) (hB : B ≤ w.heap.size) (hE : Row encE 3 w B a es) (hl : es.length ≤ 9223372036854775807) (h0 : netErr (n : Int) es = 0) (hbad : ¬ LI n (lift n es) = LI n (lift1 n es)) :
    Calls Try.prog 41 #[.agg #[.int .i64 (n : Int), .slice a es.length cap]] w fun e w' => e = .returned (.tuple #[.slice none 0 0, .int .i64 6]) ∧ Below w.heap.size w w' := by
  obtain ⟨n1, n2, n3, n4⟩ := netErr_ok h0
  have hC := hide (show ∀ w B, _ from fun w B hB hE => by have := rnet_any (n : Int) a cap es w B hB hE hl; rwa [h0] at this)
  have hes := hide (right_so h0)
  have hA := hide (fun w B hB hE => anybad_any n a cap es w B hB hE (by omega) (by omega) n3 hes.out false (by simp [hbad]))
  replace hE := hide hE
  clear h0 n4 hbad
  go_enter Try.func41, Try.ntmps41
  go_wp2_with fail
  refine (hC.out _ B (by simp <;> omega) (hE.out.below ((by repeat (first | with_reducible exact Below.refl _ _ | with_reducible assumption | with_reducible refine up_drewN ?_ | with_reducible refine up_drew ?_ | (with_reducible refine up_alloc ?_ ?_; rotate_left; (first | omega | (simp <;> omega) | simp)) | (with_reducible refine up_set ?_ ?_; rotate_left; (first | omega | (simp <;> omega) | simp)) | (with_reducible refine Below.trans ?_ (Below.mono (by with_reducible assumption) ?_); rotate_left; (first | omega | (simp <;> omega) | simp)))) : Below w.heap.size w _) hB)).mono ?_
  rintro e w1 ⟨rfl, hb1⟩
  obtain ⟨hc1, hf1⟩ := bcell hb1
  have hz1 : w.heap.size < w1.heap.size := by have := hb1.size; simp at this; omega
  go_wp2_with fail
  refine (hA.out _ B (by omega) (hE.out.below ((by repeat (first | with_reducible exact Below.refl _ _ | with_reducible assumption | with_reducible refine up_drewN ?_ | with_reducible refine up_drew ?_ | (with_reducible refine up_alloc ?_ ?_; rotate_left; (first | omega | (simp <;> omega) | simp)) | (with_reducible refine up_set ?_ ?_; rotate_left; (first | omega | (simp <;> omega) | simp)) | (with_reducible refine Below.trans ?_ (Below.mono (by with_reducible assumption) ?_); rotate_left; (first | omega | (simp <;> omega) | simp)))) : Below w.heap.size w _) hB)).mono ?_
  rintro e w2 ⟨rfl, hb2⟩
  go_wp2
  go_ret2
  exact ⟨rfl, (by repeat (first | with_reducible exact Below.refl _ _ | with_reducible assumption | with_reducible refine up_drewN ?_ | with_reducible refine up_drew ?_ | (with_reducible refine up_alloc ?_ ?_; rotate_left; (first | omega | (simp <;> omega) | simp)) | (with_reducible refine up_set ?_ ?_; rotate_left; (first | omega | (simp <;> omega) | simp)) | (with_reducible refine Below.trans ?_ (Below.mono (by with_reducible assumption) ?_); rotate_left; (first | omega | (simp <;> omega) | simp))))⟩
set_option maxRecDepth 100000 in
set_option maxHeartbeats 2000000 in
theorem rall_ok (n : Nat) (a : Option Addr) (cap : Nat) (es : List Ed) (w : World) (B : Nat) (hB : B ≤ w.heap.size) (hE : Row encE 3 w B a es) (hl : es.length ≤ 9223372036854775807) (h0 : netErr (n : Int) es = 0) (hgood : LI n (lift n es) = LI n (lift1 n es)) :
    Calls Try.prog 41 #[.agg #[.int .i64 (n : Int), .slice a es.length cap]] w (TabBack (distRows n es n) n n 0 w) := by
  obtain ⟨n1, n2, n3, n4⟩ := netErr_ok h0
  have hC := hide (show ∀ w B, _ from fun w B hB hE => by have := rnet_any (n : Int) a cap es w B hB hE hl; rwa [h0] at this)
  have hes := hide (right_so h0)
  have hA := hide (fun w B hB hE => anybad_any n a cap es w B hB hE (by omega) (by omega) n3 hes.out true (by simp [hgood]))
  replace hE := hide hE
  clear h0 n4 hgood
  go_enter Try.func41, Try.ntmps41
  go_wp2_with fail
  refine (hC.out _ B (by simp <;> omega) (hE.out.below ((by repeat (first | with_reducible exact Below.refl _ _ | with_reducible assumption | with_reducible refine up_drewN ?_ | with_reducible refine up_drew ?_ | (with_reducible refine up_alloc ?_ ?_; rotate_left; (first | omega | (simp <;> omega) | simp)) | (with_reducible refine up_set ?_ ?_; rotate_left; (first | omega | (simp <;> omega) | simp)) | (with_reducible refine Below.trans ?_ (Below.mono (by with_reducible assumption) ?_); rotate_left; (first | omega | (simp <;> omega) | simp)))) : Below w.heap.size w _) hB)).mono ?_
  rintro e w1 ⟨rfl, hb1⟩
  obtain ⟨hc1, hf1⟩ := bcell hb1
  have hz1 : w.heap.size < w1.heap.size := by have := hb1.size; simp at this; omega
  go_wp2_with fail
  refine (hA.out _ B (by omega) (hE.out.below ((by repeat (first | with_reducible exact Below.refl _ _ | with_reducible assumption | with_reducible refine up_drewN ?_ | with_reducible refine up_drew ?_ | (with_reducible refine up_alloc ?_ ?_; rotate_left; (first | omega | (simp <;> omega) | simp)) | (with_reducible refine up_set ?_ ?_; rotate_left; (first | omega | (simp <;> omega) | simp)) | (with_reducible refine Below.trans ?_ (Below.mono (by with_reducible assumption) ?_); rotate_left; (first | omega | (simp <;> omega) | simp)))) : Below w.heap.size w _) hB)).mono ?_
  rintro e w2 ⟨rfl, hb2⟩
  obtain ⟨hc2, hf2⟩ := bcell hb2
  have hz2 : w.heap.size < w2.heap.size := by have := hb2.size; omega
  have hB2 := hide (show Below w.heap.size w w2 from (by repeat (first | with_reducible exact Below.refl _ _ | with_reducible assumption | with_reducible refine up_drewN ?_ | with_reducible refine up_drew ?_ | (with_reducible refine up_alloc ?_ ?_; rotate_left; (first | omega | (simp <;> omega) | simp)) | (with_reducible refine up_set ?_ ?_; rotate_left; (first | omega | (simp <;> omega) | simp)) | (with_reducible refine Below.trans ?_ (Below.mono (by with_reducible assumption) ?_); rotate_left; (first | omega | (simp <;> omega) | simp)))))
  have k0 : w2.cell? ⟨w.heap.size, 0, none⟩ = some (.int .i64 (n : Int)) := by simp [hc2, hc1, hz1, hz2, go_sem]
  have k1 : w2.cell? ⟨w.heap.size, 1, none⟩ = some (.slice a es.length cap) := by simp [hc2, hc1, hz1, hz2, go_sem]
  clear hb1 hb2 hc1 hc2 hf1 hf2 hz1 hC hA
  go_wp2
  go_loopw [5, 6, 16] (fun s5 _ i wr => ∃ (k : Nat) (av : Option Addr) (cv : Nat) (ts : List S3), k ≤ n ∧ i = .int .i64 k ∧ s5 = .slice av k cv ∧ Hid (ROut 34 wr w2.heap.size (.slice av k cv) n ts (distRows n es k)) ∧ Hid (Below w2.heap.size w2 wr)) (fun _ _ i _ => n - (intOf i).toNat)
  case atStart => exact ⟨0, none, 0, [], Nat.zero_le _, rfl, rfl, ROut.nil _ _ _ _, Below.refl _ _⟩
  case round =>
    obtain ⟨k, av, cv, ts, hk, rfl, rfl, hR, hb⟩ := hrel
    by_cases hlt : k < n
    · have k2 := (hb.out.cell (cell_lt k0)).trans k0
      have k3 := (hb.out.cell (cell_lt k1)).trans k1
      have hzr : w2.heap.size ≤ wr.heap.size := hb.out.size
      have hEr := hide ((hE.out.below hB2.out hB).below hb.out (Nat.le_trans hB hB2.out.size))
      clear k0 k1
      go_wp2_with fail
      refine (rdist_new n a cap es k _ B (by omega) hEr.out (by omega) (by omega) n3 hes.out hlt).mono ?_
      rintro e w3 ⟨g3, c3, rfl, hr3, hb3, hg3, hg4⟩
      have hR3 := hide (hR.out.stays hb3)
      have hts : ts.length = k := by have := hR.out.1; rw [distRows_len] at this; exact this
      have hne : (Value.slice av k cv).ownBlock ≠ some g3 := by
        intro e
        have := hR.out.2.1.block_lt g3 e
        omega
      replace hr3 := hide hr3
      replace hts := hide hts
      replace hne := hide hne
      have hz3 : w2.heap.size ≤ w3.heap.size := Nat.le_trans hzr hb3.size
      go_wp2_with (at_builtin; (refine wpList_pushL (e := 34) (enc := encS) (xs := ts) (v := .slice av (k) cv) (base := w2.heap.size) rfl (.tmp 19) (.tmp 23) 30 rfl _ 24 Try.underlying30 info_row rfl ?d11 lenS oneS (k) ?d21 ?d31 ?d41 ⟨w3.heap.size, 0, none⟩ 1 ⟨some ⟨g3, 0, none⟩, n, c3⟩ ?d51 ?d61 ?d71 ?d81 ?d91 ?_); (case d11 => omega); (case d21 => exact hts.out); (case d31 => rfl); (case d41 => exact hR3.out.2.1.alloc _); (case d51 => rfl); (case d61 => exact newS _ _ _ _ rfl); (case d71 => omega); (case d81 => unfold maxLen; omega); (case d91 => first | omega | (simp; done) | (simp; omega)); intro g1 c1 w1 own1 hb1 hgr1 hat1 hgl1; have hB1 := unalloc hb1 (by omega); replace own1 := hide own1; replace hB1 := hide hB1; replace hb1 := hide hb1; replace hgr1 := hide hgr1; replace hat1 := hide hat1)
      go_roundw
      case rel =>
        refine ⟨k + 1, some ⟨g1, 0, none⟩, c1, ts ++ [⟨some ⟨g3, 0, none⟩, n, c3⟩], by omega, by go_num, rfl, ?_, ?_⟩
        · rw [distRows_succ]
          refine hide (hR3.out.push hr3.out hne.out hg4 own1.out hgr1.out ?_)
          intro j hj
          simp only [Value.ownBlock, Option.some.injEq] at hj
          subst hj
          rcases hat1.out with h | h
          · exact .inl h
          · right; rw [h]; simp
        · exact hide ((hb.out.trans (hb3.mono hzr)).trans hB1.out)
      case measure => simp [intOf]; omega
    · obtain rfl : n = k := by omega
      go_wp2
      go_ret2
      exact ⟨av, cv, rfl, hR.out.tab, hB2.out.trans (hb.out.mono hB2.out.size)⟩
end Go.Proofs.Ytgkiipmeigfjnaa
