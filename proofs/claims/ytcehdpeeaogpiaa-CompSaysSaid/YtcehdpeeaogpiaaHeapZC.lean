/-
  The heap of numbers under comp.Order$1: less, Push, Pop. Conditions: bounds on the length.
-/
import Derived.Test.YtcehdpeeaogpiaaHeapZ
import Derived.Test.YtcehdpeeaogpiaaROut
namespace Go.Proofs.Ytcehdpeeaogpiaa
open Go.RowKit
set_option linter.unusedSimpArgs false
set_option linter.unusedVariables false
theorem lessC_any (a b : Int) (w : World) : Calls Try.prog 97 #[.int .i64 a, .int .i64 b] w fun e w' => e = .returned (.bool (numLt a b)) ∧ w' = w := by
  have hf := hide (show numLt a b = decide (a < b) from rfl)
  go_enter Try.func97, Try.ntmps97
  go_wp2
  go_ret
  exact ⟨ret_bool hf.out.symm, rfl⟩
set_option maxRecDepth 100000 in
set_option maxHeartbeats 2000000 in
theorem pushC_any (base g n : Nat) (a0 : Option Addr) (c0 : Nat) (f : Nat → Int) (p : Int) (w : World) (hH : HeapZ w base g (.func (.func 97) #[] #[]) (.slice a0 n c0) n f) (hn : n ≤ 1000000) :
    Calls Try.prog 98 #[.pointer (some ⟨g, 0, none⟩), .int .i64 p] w fun e w' => e = .returned (.tuple #[]) ∧ HeapedZ w base g (.func (.func 97) #[] #[]) (.slice a0 n c0) (n + 1) (siftUp numLt (upz f n p) n) w' := by
  have hg := hH.lt
  have hbg := hH.bg
  have hc0 := hH.c0
  have hc1 := hH.c1
  have hf1 := hH.f1
  have hown := hH.own
  have hap := hH.ap
  go_enter Try.func98, Try.ntmps98
  have hH' := hide hH
  replace hown := hide hown
  have ha : (Value.slice a0 n c0).ownBlock ≠ some g := hap
  have hsz : base ≤ w.heap.size := by omega
  clear hap hH
  go_wp2_with (at_builtin; (refine wpList_pushL (e := 3) (enc := encI) (xs := (RW n f)) (v := .slice a0 (n) c0) (base := base) rfl (.tmp 10) (.tmp 12) 29 rfl _ 8 Try.underlying29 info_int rfl ?d12 lenI oneI (n) ?d22 ?d32 ?d42 ⟨w.heap.size, 0, none⟩ 1 p ?d52 ?d62 ?d72 ?d82 ?d92 ?_); (case d12 => omega); (case d22 => exact (rw_len _ _)); (case d32 => rfl); (case d42 => exact (hown.out.alloc _)); (case d52 => rfl); (case d62 => exact newI _ _ _ _ rfl); (case d72 => omega); (case d82 => unfold maxLen; omega); (case d92 => first | omega | (simp; done) | (simp; omega)); intro g2 c2 w2 own2 hb2 hgr2 hat2 hgl2; have k0 := hgr2.cell (a := ⟨g, 0, none⟩) (cu_alloc hc0) (fun e => ha e.symm); have k1 := hgr2.cell (a := ⟨g, 1, none⟩) (cu_alloc hc1) (fun e => ha e.symm); have k2 := hgr2.frozen_far ⟨g, 1, none⟩ (by simp; omega) (fun e => ha e.symm); rw [fu_alloc hf1] at k2; have hgl2 : g < w2.heap.size := cell_lt k0)
  obtain ⟨hA, hK⟩ := hH'.out.grew own2 hgr2 (by rcases hat2 with e | e; exact .inl e; right; simpa using e)
  have hgb : (Value.slice a0 n c0).ownBlock = some g2 ∨ w.heap.size ≤ g2 := by rcases hat2 with e | e; exact .inl e; right; simp at e; omega
  generalize (w2.setCell ⟨g, 1, none⟩ (.slice (some ⟨g2, 0, none⟩) (n + 1) c2)) = W at hA hK ⊢
  obtain ⟨gs, rfl⟩ : ∃ gs, gs = g2 := ⟨_, rfl⟩
  obtain ⟨cap', rfl⟩ : ∃ cap', cap' = c2 := ⟨_, rfl⟩
  have W1 := hA.c1
  have W2 := hA.lt
  replace hA := hide hA
  replace hK := hide hK
  have hgs := hA.out.own.at_base
  clear own2 hgr2 hat2 hgl2 k0 k1 k2 hown hH' ha hb2
  go_wp2
  clear W1 W2
  go_loopw [4] (fun i wr => ∃ (k : Nat) (f' : Nat → Int), k < n + 1 ∧ i = .int .i64 k ∧ Hid (HeapZ wr base g (.func (.func 97) #[] #[]) (.slice (some ⟨gs, 0, none⟩) (n + 1) cap') (n + 1) f') ∧ Hid (siftUp numLt f' k = siftUp numLt (upz f n p) n) ∧ Hid (Keep (fun k => k = g ∨ (Value.slice a0 n c0).ownBlock = some k) w wr)) (fun i _ => (intOf i).toNat)
  case atStart => exact ⟨n, upz f n p, by omega, by go_num, hA, rfl, hK⟩
  case round =>
    obtain ⟨k, f', hk, rfl, hA, hS, hK⟩ := hrel
    by_cases h0 : k = 0
    · subst h0
      go_wp2
      go_end0
      refine ⟨rfl, gs, cap', ?_, hK.out, hgb⟩
      rw [← hS.out, siftUp_top]
      exact hA.out
    · obtain ⟨j, hj⟩ : ∃ j, j = (k - 1) / 2 := ⟨_, rfl⟩
      have hjk : j < k := by omega
      have hq : ((k : Int) - 1) / 2 = (j : Int) := by omega
      have hk0 : (0 : Int) < (k : Int) := by omega
      have ca := hA.out.cells k hk
      have da := hA.out.cells j (by omega)
      have c0 := hA.out.c0
      have c1 := hA.out.c1
      have hglt := hA.out.lt
      have hgs' := hA.out.own.at_base
      have hgsl := hgs'.2
      replace hj := hide hj
      clear hgs
      go_wp2
      simp only [hq]
      clear hq
      have ik : (0 : Int) ≤ (k : Int) ∧ (k : Int) < (n : Int) + 1 := by omega
      have ij : (0 : Int) ≤ (j : Int) ∧ (j : Int) < (n : Int) + 1 := by omega
      have ik2 : (k : Int) < ((n + 1 : Nat) : Int) := by omega
      have ij2 : (j : Int) < ((n + 1 : Nat) : Int) := by omega
      have hC := hide (lessC_any (f' k) (f' j))
      obtain ⟨b, hb⟩ : ∃ b, b = numLt (f' k) (f' j) := ⟨_, rfl⟩
      rw [← hb] at hC
      replace hb := hide hb
      cases b
      · go_quiet ((go_at_call 97; exact Calls.quiet_of_same (hC.out _)))
        have hA4 := hide (hA.out.drewN nq)
        have hK4 := hide (hK.out.drewN nq)
        go_wp2
        go_end0
        refine ⟨rfl, gs, cap', ?_, hK4.out, hgb⟩
        rw [← hS.out, siftUp_stop (by omega) (by rw [← hj.out]; exact hb.out.symm)]
        exact hA4.out
      · go_quiet ((go_at_call 97; exact Calls.quiet_of_same (hC.out _)))
        have hA4 := hide (hA.out.drewN nq)
        have hK4 := hide (hK.out.drewN nq)
        generalize wr.drewN nq = w4 at hA4 hK4 ⊢
        clear ca da c0 c1 hglt hgs' hgsl
        have ca4 := hA4.out.cells k hk
        have da4 := hA4.out.cells j (by omega)
        have c04 := hA4.out.c0
        have c14 := hA4.out.c1
        have hglt := hA4.out.lt
        have hgsl := hA4.out.own.at_base.2
        have ffk := hA4.out.frees k
        have ffj := hA4.out.frees j
        go_wp2
        go_region
        all_goals
          go_wp2
          have hsw := hide (hA4.out.swap hk (show j < n + 1 by omega))
          have hsw' := hide (hA4.out.swap' hk (show j < n + 1 by omega) (by omega))
          have hgo := siftUp_go (lt := numLt) (f := f') (i := k) (by omega) (by rw [← hj.out]; exact hb.out.symm)
          rw [← hj.out] at hgo
          replace hgo := hide hgo
          have hsp : (fun k => k = g ∨ (Value.slice a0 n c0).ownBlock = some k) gs ∨ w.heap.size ≤ gs := hgb.imp .inr id
          go_roundw
          case rel =>
            refine ⟨j, swf f' k j, by omega, by go_num, hide ?_, hide ?_, hide ?_⟩
            · first | exact hsw.out.drew | exact hsw.out.drewN _ | exact hsw'.out.drew | exact hsw'.out.drewN _
            · rw [← hS.out]; exact hgo.out.symm
            · first | exact ((hK4.out.setCell hsp _).setCell hsp _).drew | exact ((hK4.out.setCell hsp _).setCell hsp _).drewN _
          case measure => simp [intOf]; omega
set_option maxRecDepth 100000 in
set_option maxHeartbeats 4000000 in
theorem popC_any (base g n gs c0 : Nat) (f : Nat → Int) (w : World) (hH : HeapZ w base g (.func (.func 97) #[] #[]) (.slice (some ⟨gs, 0, none⟩) (n + 1) c0) (n + 1) f) (hn : n ≤ 1000000) :
    Calls Try.prog 100 #[.pointer (some ⟨g, 0, none⟩)] w (PoppedZ w base g gs c0 (.func (.func 97) #[] #[]) n (siftDown numLt n (upz f 0 (f n)) 0) (f 0)) := by
  have hg := hH.lt
  have hbg := hH.bg
  have hgs := hH.own.at_base
  have hgs2 := hgs.2
  have hne : gs ≠ g := fun e => hH.ap (by rw [e]; rfl)
  have hne2 : g ≠ gs := fun e => hne e.symm
  have k0 := hH.c0
  have k1 := hH.c1
  have f1 := hH.f1
  have ca := hH.cells 0 (by omega)
  have da := hH.cells n (by omega)
  have fa := hH.frees 0
  have icap : n ≤ c0 := by
    rcases hH.own.2 with ⟨h1, _⟩ | ⟨g', cap, cur, h1, h2, h3, h4, h5, h6, h7⟩
    · cases h1
    · simp only [Value.slice.injEq] at h1
      obtain ⟨_, _, rfl⟩ := h1
      rw [rw_len] at h4
      omega
  go_enter Try.func100, Try.ntmps100
  obtain ⟨hI0, hKp0⟩ := hH.lastFirst
  have hI := hide hI0.drew
  have hKp := hide hKp0.drew
  clear hH hI0 hKp0
  have in0 : (0 : Int) ≤ (n : Int) ∧ (n : Int) < (n : Int) + 1 := by omega
  go_wp2
  go_region
  go_wp2_with fail
  generalize ((w.setCell ⟨gs, 0, none⟩ (.int .i64 (f n))).setCell ⟨g, 1, none⟩ (.slice (some ⟨gs, 0, none⟩) n c0)).drew = W1 at hI hKp ⊢
  clear k0 k1 f1 da fa ca in0 icap
  go_loopw [5, 6] (fun i _ wr => ∃ (k : Nat) (f' : Nat → Int), (k < n ∨ k = 0) ∧ i = .int .i64 k ∧ Hid (HeapZ wr base g (.func (.func 97) #[] #[]) (.slice (some ⟨gs, 0, none⟩) n c0) n f') ∧ Hid (siftDown numLt n f' k = siftDown numLt n (upz f 0 (f n)) 0) ∧ Hid (Keep (fun k => k = g ∨ k = gs) w wr)) (fun i _ _ => n - (intOf i).toNat)
  case atStart => exact ⟨0, _, by omega, rfl, hI, rfl, hKp⟩
  case round =>
    obtain ⟨i, f', hk, rfl, hI, hS, hKr⟩ := hrel
    have hi6 : i ≤ 1000000 := by omega
    by_cases hlt : 2 * i + 1 < n
    · obtain ⟨m, hm⟩ : ∃ m, m = 2 * i + 1 := ⟨_, rfl⟩
      have hq := hide (show 2 * (i : Int) + 1 = (m : Int) by omega)
      have hm' := hide hm
      have hmn : m < n := by omega
      have hmn2 : (m : Int) < (n : Int) := by omega
      have ma := hI.out.cells m hmn
      have k0 := hI.out.c0
      have k1 := hI.out.c1
      have hgl := hI.out.lt
      have hgsl := hI.out.own.at_base.2
      have hkd : ∃ (b : Bool), b = (decide (m + 1 < n) && numLt (f' (m + 1)) (f' m)) := ⟨_, rfl⟩
      obtain ⟨bk, hbk⟩ := hkd
      have hkid : kid numLt n f' i = if bk = true then m + 1 else m := by
        unfold kid
        rw [← hm, hbk]
        by_cases h1 : m + 1 < n
        · by_cases h2 : numLt (f' (m + 1)) (f' m) = true
          · rw [if_pos ⟨h1, h2⟩]; simp [h1, h2]
          · rw [if_neg (fun h => h2 h.2)]; simp [h1, h2]
        · rw [if_neg (fun h => h1 h.1)]; simp [h1]
      replace hkid := hide hkid
      replace hbk := hide hbk
      clear hm
      by_cases hlt2 : m + 1 < n
      · have na := hI.out.cells (m + 1) hlt2
        have im1 := hide (show IntKind.i64.wrap ((m : Int) + 1) = (m : Int) + 1 from IntWalk.i64_in _ (by omega))
        have im2 : (0 : Int) ≤ (m : Int) + 1 ∧ (m : Int) + 1 < (n : Int) := by omega
        have im3 := hide (show ((m : Int) + 1).toNat = m + 1 by omega)
        have im4 : decide ((m : Int) + 1 < (n : Int)) = true := by simp; omega
        have hC0 := hide (lessC_any (f' (m + 1)) (f' m))
        have hbk2 := hide (show numLt (f' (m + 1)) (f' m) = bk by rw [hbk.out]; simp [hlt2])
        rw [hbk2.out] at hC0
        go_wp2
        replace hq := hq.out
        simp only [hq]
        clear hq
        replace im1 := im1.out
        replace im3 := im3.out
        go_quiet ((go_at_call 97; exact Calls.quiet_of_same (hC0.out _)))
        clear im1 im3 im4 im2 hC0 na
        have hI4 := hide (hI.out.drewN nq)
        have hK4 := hide (hKr.out.drewN nq)
        generalize wr.drewN nq = wq at hI4 hK4 ⊢
        clear ma k0 k1 hgl hgsl
        obtain ⟨k, hkk⟩ : ∃ k, k = kid numLt n f' i := ⟨_, rfl⟩
        have hkm := hide (show k = if bk = true then m + 1 else m by rw [hkk, hkid.out])
        obtain ⟨hkn, -, hik⟩ := kid_is (lt := numLt) n f' i hlt
        rw [← hkk] at hkn hik
        replace hkk := hide hkk
        cases bk
        · obtain rfl : k = m := by have := hkm.out; simp at this; omega
          go_wp2
          have ka := hI4.out.cells k hkn
          have ia := hI4.out.cells i (by omega)
          have k0 := hI4.out.c0
          have k1 := hI4.out.c1
          have hgl := hI4.out.lt
          have hgsl := hI4.out.own.at_base.2
          have ik : (0 : Int) ≤ (k : Int) ∧ (k : Int) < (n : Int) := by omega
          have ii : (0 : Int) ≤ (i : Int) ∧ (i : Int) < (n : Int) := by omega
          have hC0 := hide (lessC_any (f' k) (f' i))
          obtain ⟨b2, hb2⟩ : ∃ b, b = numLt (f' k) (f' i) := ⟨_, rfl⟩
          rw [← hb2] at hC0
          replace hb2 := hide hb2
          cases b2
          · go_quiet ((go_at_call 97; exact Calls.quiet_of_same (hC0.out _)))
            have hI5 := hide (hI4.out.drewN nq)
            have hK5 := hide (hK4.out.drewN nq)
            have hst := hide (siftDown_stop (lt := numLt) (n := n) (f := f') (i := i) hlt (by rw [← hkk.out]; exact hb2.out.symm))
            go_wp2
            go_ret
            refine ⟨rfl, ?_, hK5.out⟩
            rw [← hS.out, hst.out]
            exact hI5.out
          · go_quiet ((go_at_call 97; exact Calls.quiet_of_same (hC0.out _)))
            have hI5 := hide (hI4.out.drewN nq)
            have hK5 := hide (hK4.out.drewN nq)
            generalize wq.drewN nq = w5 at hI5 hK5 ⊢
            clear ka ia k0 k1 hgl hgsl hI4 hK4
            have ka := hI5.out.cells k hkn
            have ia := hI5.out.cells i (by omega)
            have k0 := hI5.out.c0
            have k1 := hI5.out.c1
            have hgl := hI5.out.lt
            have hgsl := hI5.out.own.at_base.2
            have ffk := hI5.out.frees k
            have ffi := hI5.out.frees i
            go_wp2
            go_region
            all_goals
              go_wp2
              have hsw := hide (hI5.out.swap (show i < n by omega) hkn)
              have hsw' := hide (hI5.out.swap' (show i < n by omega) hkn (by omega))
              have hgo := siftDown_go (lt := numLt) (n := n) (f := f') (i := i) hlt (by rw [← hkk.out]; exact hb2.out.symm)
              rw [← hkk.out] at hgo
              replace hgo := hide hgo
              have hsp : (fun k => k = g ∨ k = gs) gs ∨ w.heap.size ≤ gs := .inl (.inr rfl)
              go_roundw
              case rel =>
                refine ⟨k, swf f' i k, by omega, by go_num, hide ?_, hide ?_, hide ?_⟩
                · first | exact hsw.out.drew | exact hsw.out.drewN _ | exact hsw'.out.drew | exact hsw'.out.drewN _
                · rw [← hS.out]; exact hgo.out.symm
                · first | exact ((hK5.out.setCell hsp _).setCell hsp _).drew | exact ((hK5.out.setCell hsp _).setCell hsp _).drewN _
              case measure => simp [intOf]; omega
        · have hk1 := hide (show (m : Int) + 1 = (k : Int) by have := hkm.out; simp at this; omega)
          go_wp2
          simp only [hk1.out]
          have ka := hI4.out.cells k hkn
          have ia := hI4.out.cells i (by omega)
          have k0 := hI4.out.c0
          have k1 := hI4.out.c1
          have hgl := hI4.out.lt
          have hgsl := hI4.out.own.at_base.2
          have ik : (0 : Int) ≤ (k : Int) ∧ (k : Int) < (n : Int) := by omega
          have ii : (0 : Int) ≤ (i : Int) ∧ (i : Int) < (n : Int) := by omega
          have hC0 := hide (lessC_any (f' k) (f' i))
          obtain ⟨b2, hb2⟩ : ∃ b, b = numLt (f' k) (f' i) := ⟨_, rfl⟩
          rw [← hb2] at hC0
          replace hb2 := hide hb2
          cases b2
          · go_quiet ((go_at_call 97; exact Calls.quiet_of_same (hC0.out _)))
            have hI5 := hide (hI4.out.drewN nq)
            have hK5 := hide (hK4.out.drewN nq)
            have hst := hide (siftDown_stop (lt := numLt) (n := n) (f := f') (i := i) hlt (by rw [← hkk.out]; exact hb2.out.symm))
            go_wp2
            go_ret
            refine ⟨rfl, ?_, hK5.out⟩
            rw [← hS.out, hst.out]
            exact hI5.out
          · go_quiet ((go_at_call 97; exact Calls.quiet_of_same (hC0.out _)))
            have hI5 := hide (hI4.out.drewN nq)
            have hK5 := hide (hK4.out.drewN nq)
            generalize wq.drewN nq = w5 at hI5 hK5 ⊢
            clear ka ia k0 k1 hgl hgsl hI4 hK4
            have ka := hI5.out.cells k hkn
            have ia := hI5.out.cells i (by omega)
            have k0 := hI5.out.c0
            have k1 := hI5.out.c1
            have hgl := hI5.out.lt
            have hgsl := hI5.out.own.at_base.2
            have ffk := hI5.out.frees k
            have ffi := hI5.out.frees i
            go_wp2
            go_region
            all_goals
              go_wp2
              have hsw := hide (hI5.out.swap (show i < n by omega) hkn)
              have hsw' := hide (hI5.out.swap' (show i < n by omega) hkn (by omega))
              have hgo := siftDown_go (lt := numLt) (n := n) (f := f') (i := i) hlt (by rw [← hkk.out]; exact hb2.out.symm)
              rw [← hkk.out] at hgo
              replace hgo := hide hgo
              have hsp : (fun k => k = g ∨ k = gs) gs ∨ w.heap.size ≤ gs := .inl (.inr rfl)
              go_roundw
              case rel =>
                refine ⟨k, swf f' i k, by omega, by go_num, hide ?_, hide ?_, hide ?_⟩
                · first | exact hsw.out.drew | exact hsw.out.drewN _ | exact hsw'.out.drew | exact hsw'.out.drewN _
                · rw [← hS.out]; exact hgo.out.symm
                · first | exact ((hK5.out.setCell hsp _).setCell hsp _).drew | exact ((hK5.out.setCell hsp _).setCell hsp _).drewN _
              case measure => simp [intOf]; omega
      · have im1 := hide (show IntKind.i64.wrap ((m : Int) + 1) = (m : Int) + 1 from IntWalk.i64_in _ (by omega))
        have im4 := hide (show decide ((m : Int) + 1 < (n : Int)) = false by simp; omega)
        have hbf : bk = false := by rw [hbk.out]; simp [hlt2]
        subst hbf
        go_wp2
        replace hq := hq.out
        simp only [hq]
        clear hq
        replace im1 := im1.out
        replace im4 := im4.out
        go_quiet (fail)
        clear im1 im4
        have hI4 := hide (hI.out.drewN nq)
        have hK4 := hide (hKr.out.drewN nq)
        generalize wr.drewN nq = wq at hI4 hK4 ⊢
        clear ma k0 k1 hgl hgsl
        obtain ⟨k, hkk⟩ : ∃ k, k = kid numLt n f' i := ⟨_, rfl⟩
        have hkm := hide (show k = if false = true then m + 1 else m by rw [hkk, hkid.out])
        obtain ⟨hkn, -, hik⟩ := kid_is (lt := numLt) n f' i hlt
        rw [← hkk] at hkn hik
        replace hkk := hide hkk
        obtain rfl : k = m := by have := hkm.out; simp at this; omega
        go_wp2
        have ka := hI4.out.cells k hkn
        have ia := hI4.out.cells i (by omega)
        have k0 := hI4.out.c0
        have k1 := hI4.out.c1
        have hgl := hI4.out.lt
        have hgsl := hI4.out.own.at_base.2
        have ik : (0 : Int) ≤ (k : Int) ∧ (k : Int) < (n : Int) := by omega
        have ii : (0 : Int) ≤ (i : Int) ∧ (i : Int) < (n : Int) := by omega
        have hC0 := hide (lessC_any (f' k) (f' i))
        obtain ⟨b2, hb2⟩ : ∃ b, b = numLt (f' k) (f' i) := ⟨_, rfl⟩
        rw [← hb2] at hC0
        replace hb2 := hide hb2
        cases b2
        · go_quiet ((go_at_call 97; exact Calls.quiet_of_same (hC0.out _)))
          have hI5 := hide (hI4.out.drewN nq)
          have hK5 := hide (hK4.out.drewN nq)
          have hst := hide (siftDown_stop (lt := numLt) (n := n) (f := f') (i := i) hlt (by rw [← hkk.out]; exact hb2.out.symm))
          go_wp2
          go_ret
          refine ⟨rfl, ?_, hK5.out⟩
          rw [← hS.out, hst.out]
          exact hI5.out
        · go_quiet ((go_at_call 97; exact Calls.quiet_of_same (hC0.out _)))
          have hI5 := hide (hI4.out.drewN nq)
          have hK5 := hide (hK4.out.drewN nq)
          generalize wq.drewN nq = w5 at hI5 hK5 ⊢
          clear ka ia k0 k1 hgl hgsl hI4 hK4
          have ka := hI5.out.cells k hkn
          have ia := hI5.out.cells i (by omega)
          have k0 := hI5.out.c0
          have k1 := hI5.out.c1
          have hgl := hI5.out.lt
          have hgsl := hI5.out.own.at_base.2
          have ffk := hI5.out.frees k
          have ffi := hI5.out.frees i
          go_wp2
          go_region
          all_goals
            go_wp2
            have hsw := hide (hI5.out.swap (show i < n by omega) hkn)
            have hsw' := hide (hI5.out.swap' (show i < n by omega) hkn (by omega))
            have hgo := siftDown_go (lt := numLt) (n := n) (f := f') (i := i) hlt (by rw [← hkk.out]; exact hb2.out.symm)
            rw [← hkk.out] at hgo
            replace hgo := hide hgo
            have hsp : (fun k => k = g ∨ k = gs) gs ∨ w.heap.size ≤ gs := .inl (.inr rfl)
            go_roundw
            case rel =>
              refine ⟨k, swf f' i k, by omega, by go_num, hide ?_, hide ?_, hide ?_⟩
              · first | exact hsw.out.drew | exact hsw.out.drewN _ | exact hsw'.out.drew | exact hsw'.out.drewN _
              · rw [← hS.out]; exact hgo.out.symm
              · first | exact ((hK5.out.setCell hsp _).setCell hsp _).drew | exact ((hK5.out.setCell hsp _).setCell hsp _).drewN _
            case measure => simp [intOf]; omega
    · have hend := hide (siftDown_end (lt := numLt) (f := f') hlt)
      have hI2 := hide hI.out
      go_wp2
      go_ret
      refine ⟨rfl, ?_, hKr.out⟩
      rw [← hS.out, hend.out]
      exact hI2.out
end Go.Proofs.Ytcehdpeeaogpiaa
