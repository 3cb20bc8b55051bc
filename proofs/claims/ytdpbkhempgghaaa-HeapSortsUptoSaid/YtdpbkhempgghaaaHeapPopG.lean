/-
  heap.Pop over pairs, the greatest first. Conditions: at least one, bounds on the length.
-/
import Derived.Test.YtdpbkhempgghaaaHeapPop
import Derived.Test.YtdpbkhempgghaaaHeapG
namespace Go.Proofs.Ytdpbkhempgghaaa
open Go.RowKit
set_option linter.unusedSimpArgs false
set_option linter.unusedVariables false
set_option maxRecDepth 100000 in
set_option maxHeartbeats 4000000 in
theorem popG_any (base g n gs c0 : Nat) (f : Nat → P2) (w : World) (hH : HeapAt w base g (.func (.func 101) #[] #[]) (.slice (some ⟨gs, 0, none⟩) (n + 1) c0) (n + 1) f) (hn : n ≤ 1000000) :
    Calls Try.prog 105 #[.pointer (some ⟨g, 0, none⟩)] w (Popped w base g gs c0 (.func (.func 101) #[] #[]) n (siftDown popGt n (upz f 0 (f n)) 0) (f 0)) := by
  have hg := hH.lt
  have hbg := hH.bg
  have hgs := hH.own.at_base
  have hne : gs ≠ g := fun e => hH.ap (by rw [e]; rfl)
  have hne2 : g ≠ gs := fun e => hne e.symm
  have k0 := hH.c0
  have k1 := hH.c1
  have f1 := hH.f1
  obtain ⟨ca, cb⟩ := hH.cells 0 (by omega)
  obtain ⟨da, db⟩ := hH.cells n (by omega)
  have fa := hH.frees 0
  have fb := hH.frees (0 + 1)
  simp only [Nat.zero_mul] at ca cb
  have icap : n ≤ c0 := by
    rcases hH.own.2 with ⟨h1, _⟩ | ⟨g', cap, cur, h1, h2, h3, h4, h5, h6, h7⟩
    · cases h1
    · simp only [Value.slice.injEq] at h1
      obtain ⟨_, _, rfl⟩ := h1
      rw [rw_len] at h4
      omega
  go_enter Try.func105, Try.ntmps105
  have hH' := hide hH
  clear hH
  have in0 : (0 : Int) ≤ (n : Int) ∧ (n : Int) < (n : Int) + 1 := by omega
  have hI := hide (PopI.start hH'.out (f 0) (t1 := 88) (t2 := 88))
  go_wp2
  go_region
  go_wp2_with fail
  generalize (((((w.setCell ⟨gs, 0, none⟩ (.int .i64 (f n).a)).setCell ⟨gs, 1, none⟩ (.int .i64 (f n).b)).setCell ⟨g, 1, none⟩ (.slice (some ⟨gs, 0, none⟩) n c0)).alloc (.cells #[.int .i64 0, .int .i64 0] 88)).alloc (.cells #[.int .i64 (f 0).a, .int .i64 (f 0).b] 88)).drew = W1 at hI ⊢
  clear k0 k1 f1 da db fa fb ca cb hH' in0 icap
  go_loopw [5] (fun i wr => ∃ (k : Nat) (f' : Nat → P2), (k < n ∨ k = 0) ∧ i = .int .i64 k ∧ Hid (PopI w base g gs c0 (.func (.func 101) #[] #[]) n f' (f 0) wr) ∧ Hid (siftDown popGt n f' k = siftDown popGt n (upz f 0 (f n)) 0)) (fun i _ => n - (intOf i).toNat)
  case atStart => exact ⟨0, _, by omega, rfl, hI, rfl⟩
  case round =>
    obtain ⟨i, f', hk, rfl, hI, hS⟩ := hrel
    have hi6 : i ≤ 1000000 := by omega
    by_cases hlt : 2 * i + 1 < n
    · obtain ⟨m, hm⟩ : ∃ m, m = 2 * i + 1 := ⟨_, rfl⟩
      have hq := hide (show 2 * (i : Int) + 1 = (m : Int) by omega)
      have hm' := hide hm
      have hmn : m < n := by omega
      have hmn2 : (m : Int) < (n : Int) := by omega
      have hkd := hide (kid_is (lt := popGt) n f' i hlt)
      obtain ⟨ma, mb⟩ := hI.out.at'.cells m hmn
      have k0 := hI.out.at'.c0
      have k1 := hI.out.at'.c1
      have hgl := hI.out.at'.lt
      have hgsl := hI.out.at'.own.at_base.2
      by_cases hlt2 : m + 1 < n
      · obtain ⟨na, nb⟩ := hI.out.at'.cells (m + 1) hlt2
        have im1 : IntKind.i64.wrap ((m : Int) + 1) = (m : Int) + 1 := IntWalk.i64_in _ (by omega)
        have im2 : (0 : Int) ≤ (m : Int) + 1 ∧ (m : Int) + 1 < (n : Int) := by omega
        have im3 : ((m : Int) + 1).toNat = m + 1 := by omega
        have im4 : decide ((m : Int) + 1 < (n : Int)) = true := by simp; omega
        have hC0 := hide (more_any (f' (m + 1)) (f' m))
        obtain ⟨b, hb⟩ : ∃ b, b = popGt (f' (m + 1)) (f' m) := ⟨_, rfl⟩
        rw [← hb] at hC0
        replace hb := hide hb
        have key := hide (show ∀ w', Below wr.heap.size wr w' → (Below wr.heap.size wr w' ∧ w'.cell? ⟨g, 0, none⟩ = some (.func (.func 101) #[] #[]) ∧ w'.cell? ⟨g, 1, none⟩ = some (.slice (some ⟨gs, 0, none⟩) n c0) ∧ w'.cell? ⟨gs, m * 2, none⟩ = some (.int .i64 (f' m).a) ∧ w'.cell? ⟨gs, m * 2 + 1, none⟩ = some (.int .i64 (f' m).b) ∧ w'.cell? ⟨gs, (m + 1) * 2, none⟩ = some (.int .i64 (f' (m + 1)).a) ∧ w'.cell? ⟨gs, (m + 1) * 2 + 1, none⟩ = some (.int .i64 (f' (m + 1)).b)) from
          fun w' hb => ⟨hb, cu_below hb k0 hgl, cu_below hb k1 hgl, cu_below hb ma hgsl, cu_below hb mb hgsl, cu_below hb na hgsl, cu_below hb nb hgsl⟩)
        replace im1 := hide im1
        replace im3 := hide im3
        clear hm
        go_wp2
        replace hq := hq.out
        simp only [hq]
        clear hq
        replace im1 := im1.out
        replace im3 := im3.out
        go_region_held3 (fun w' => Below wr.heap.size wr w' ∧ w'.cell? ⟨g, 0, none⟩ = some (.func (.func 101) #[] #[]) ∧ w'.cell? ⟨g, 1, none⟩ = some (.slice (some ⟨gs, 0, none⟩) n c0) ∧ w'.cell? ⟨gs, m * 2, none⟩ = some (.int .i64 (f' m).a) ∧ w'.cell? ⟨gs, m * 2 + 1, none⟩ = some (.int .i64 (f' m).b) ∧ w'.cell? ⟨gs, (m + 1) * 2, none⟩ = some (.int .i64 (f' (m + 1)).a) ∧ w'.cell? ⟨gs, (m + 1) * 2 + 1, none⟩ = some (.int .i64 (f' (m + 1)).b))
          (first | exact key.out _ (below_drew _) | exact key.out _ (by assumption))
          (first | (go_at_call 101; refine (hC0.out _).mono ?_; rintro e w4 ⟨rfl, hb5⟩; have hb6 := below_step (‹Below wr.heap.size wr _ ∧ _› : _ ∧ _).1 hb5))
        have hI4 := hide (hI.out.stays (‹Below wr.heap.size wr w4 ∧ _› : _ ∧ _).1)
        obtain ⟨wq, rfl⟩ : ∃ wq : World, wq = w4 := ⟨_, rfl⟩
        clear key hC0 hb5 hb6 ma mb na nb k0 k1 hgl hgsl im1 im3 im4
        cases b
        · have hkid := hide (show m = kid popGt n f' i by unfold kid; rw [← hm'.out, if_neg (by rw [← hb.out]; simp)])
          obtain ⟨k, rfl⟩ : ∃ k, k = m := ⟨_, rfl⟩
          have hkn := hmn
          have hik : i < k := by have := hm'.out; omega
          clear im2
          go_wp2
          obtain ⟨ka, kb⟩ := hI4.out.at'.cells k hkn
          obtain ⟨ia, ib⟩ := hI4.out.at'.cells i (by omega)
          have k0 := hI4.out.at'.c0
          have k1 := hI4.out.at'.c1
          have hgl := hI4.out.at'.lt
          have hgsl := hI4.out.at'.own.at_base.2
          have ik : (0 : Int) ≤ (k : Int) ∧ (k : Int) < (n : Int) := by omega
          have ii : (0 : Int) ≤ (i : Int) ∧ (i : Int) < (n : Int) := by omega
          have hC0 := hide (more_any (f' k) (f' i))
          obtain ⟨b2, hb2⟩ : ∃ b, b = popGt (f' k) (f' i) := ⟨_, rfl⟩
          rw [← hb2] at hC0
          replace hb2 := hide hb2
          have key := hide (show ∀ w', Below wq.heap.size wq w' → (Below wq.heap.size wq w' ∧ w'.cell? ⟨g, 0, none⟩ = some (.func (.func 101) #[] #[]) ∧ w'.cell? ⟨g, 1, none⟩ = some (.slice (some ⟨gs, 0, none⟩) n c0) ∧ w'.cell? ⟨gs, k * 2, none⟩ = some (.int .i64 (f' k).a) ∧ w'.cell? ⟨gs, k * 2 + 1, none⟩ = some (.int .i64 (f' k).b) ∧ w'.cell? ⟨gs, i * 2, none⟩ = some (.int .i64 (f' i).a) ∧ w'.cell? ⟨gs, i * 2 + 1, none⟩ = some (.int .i64 (f' i).b)) from
            fun w' hb => ⟨hb, cu_below hb k0 hgl, cu_below hb k1 hgl, cu_below hb ka hgsl, cu_below hb kb hgsl, cu_below hb ia hgsl, cu_below hb ib hgsl⟩)
          go_region_held3 (fun w' => Below wq.heap.size wq w' ∧ w'.cell? ⟨g, 0, none⟩ = some (.func (.func 101) #[] #[]) ∧ w'.cell? ⟨g, 1, none⟩ = some (.slice (some ⟨gs, 0, none⟩) n c0) ∧ w'.cell? ⟨gs, k * 2, none⟩ = some (.int .i64 (f' k).a) ∧ w'.cell? ⟨gs, k * 2 + 1, none⟩ = some (.int .i64 (f' k).b) ∧ w'.cell? ⟨gs, i * 2, none⟩ = some (.int .i64 (f' i).a) ∧ w'.cell? ⟨gs, i * 2 + 1, none⟩ = some (.int .i64 (f' i).b))
            (first | exact key.out _ (below_drew _) | exact key.out _ (by assumption))
            (first | (go_at_call 101; refine (hC0.out _).mono ?_; rintro e w5 ⟨rfl, hb5⟩; have hb6 := below_step (‹Below wq.heap.size wq _ ∧ _› : _ ∧ _).1 hb5))
          have hI5 := hide (hI4.out.stays (‹Below wq.heap.size wq w5 ∧ _› : _ ∧ _).1)
          clear key hC0 hb5 hb6 ka kb ia ib k0 k1 hI4 hgl hgsl
          cases b2
          · have hoa := hI5.out.oa
            have hob := hI5.out.ob
            have hra := hI5.out.ra
            have hrb := hI5.out.rb
            have hfa := hI5.out.fa
            have hfb := hI5.out.fb
            have hz := hI5.out.lt
            have hD := hide hI5.out.done
            go_wp2
            refine bodyPost_ret (v := .agg #[.int .i64 (f 0).a, .int .i64 (f 0).b]) (by simp [results, Try.results105, go_sem, hra, hrb, hz]) rfl ⟨rfl, ?_, hD.out.2⟩
            rw [← hS.out, siftDown_stop hlt (by rw [← hkid.out]; exact hb2.out.symm)]
            exact hD.out.1
          · obtain ⟨ka, kb⟩ := hI5.out.at'.cells k hkn
            obtain ⟨ia, ib⟩ := hI5.out.at'.cells i (by omega)
            have k0 := hI5.out.at'.c0
            have k1 := hI5.out.at'.c1
            have hgl := hI5.out.at'.lt
            have hgsl := hI5.out.at'.own.at_base.2
            have ffk := hI5.out.at'.frees (k * 2)
            have ffk1 := hI5.out.at'.frees (k * 2 + 1)
            have ffi := hI5.out.at'.frees (i * 2)
            have ffi1 := hI5.out.at'.frees (i * 2 + 1)
            go_wp2
            go_region
            go_wp2
            have hsw := hide (hI5.out.swap (show i < n by omega) hkn)
            have hgo := siftDown_go (lt := popGt) (n := n) (f := f') (i := i) hlt (by rw [← hkid.out]; exact hb2.out.symm)
            rw [← hkid.out] at hgo
            replace hgo := hide hgo
            go_roundw
            case rel =>
              refine ⟨k, swf f' i k, by omega, by go_num, hide ?_, hide ?_⟩
              · first | exact hsw.out.drew | exact hsw.out.drewN _
              · rw [← hS.out]; exact hgo.out.symm
            case measure => simp [intOf]; omega
        · obtain ⟨k, hk1⟩ : ∃ k, k = m + 1 := ⟨_, rfl⟩
          have hkid := hide (show k = kid popGt n f' i by unfold kid; rw [← hm'.out, if_pos ⟨hlt2, by rw [← hb.out]⟩, hk1])
          have hkn : k < n := by omega
          have hik : i < k := by have := hm'.out; omega
          have hq2 := hide (show (m : Int) + 1 = (k : Int) by omega)
          replace hk1 := hide hk1
          go_wp2
          simp only [hq2.out]
          obtain ⟨ka, kb⟩ := hI4.out.at'.cells k hkn
          obtain ⟨ia, ib⟩ := hI4.out.at'.cells i (by omega)
          have k0 := hI4.out.at'.c0
          have k1 := hI4.out.at'.c1
          have hgl := hI4.out.at'.lt
          have hgsl := hI4.out.at'.own.at_base.2
          have ik : (0 : Int) ≤ (k : Int) ∧ (k : Int) < (n : Int) := by omega
          have ii : (0 : Int) ≤ (i : Int) ∧ (i : Int) < (n : Int) := by omega
          have hC0 := hide (more_any (f' k) (f' i))
          obtain ⟨b2, hb2⟩ : ∃ b, b = popGt (f' k) (f' i) := ⟨_, rfl⟩
          rw [← hb2] at hC0
          replace hb2 := hide hb2
          have key := hide (show ∀ w', Below wq.heap.size wq w' → (Below wq.heap.size wq w' ∧ w'.cell? ⟨g, 0, none⟩ = some (.func (.func 101) #[] #[]) ∧ w'.cell? ⟨g, 1, none⟩ = some (.slice (some ⟨gs, 0, none⟩) n c0) ∧ w'.cell? ⟨gs, k * 2, none⟩ = some (.int .i64 (f' k).a) ∧ w'.cell? ⟨gs, k * 2 + 1, none⟩ = some (.int .i64 (f' k).b) ∧ w'.cell? ⟨gs, i * 2, none⟩ = some (.int .i64 (f' i).a) ∧ w'.cell? ⟨gs, i * 2 + 1, none⟩ = some (.int .i64 (f' i).b)) from
            fun w' hb => ⟨hb, cu_below hb k0 hgl, cu_below hb k1 hgl, cu_below hb ka hgsl, cu_below hb kb hgsl, cu_below hb ia hgsl, cu_below hb ib hgsl⟩)
          go_region_held3 (fun w' => Below wq.heap.size wq w' ∧ w'.cell? ⟨g, 0, none⟩ = some (.func (.func 101) #[] #[]) ∧ w'.cell? ⟨g, 1, none⟩ = some (.slice (some ⟨gs, 0, none⟩) n c0) ∧ w'.cell? ⟨gs, k * 2, none⟩ = some (.int .i64 (f' k).a) ∧ w'.cell? ⟨gs, k * 2 + 1, none⟩ = some (.int .i64 (f' k).b) ∧ w'.cell? ⟨gs, i * 2, none⟩ = some (.int .i64 (f' i).a) ∧ w'.cell? ⟨gs, i * 2 + 1, none⟩ = some (.int .i64 (f' i).b))
            (first | exact key.out _ (below_drew _) | exact key.out _ (by assumption))
            (first | (go_at_call 101; refine (hC0.out _).mono ?_; rintro e w5 ⟨rfl, hb5⟩; have hb6 := below_step (‹Below wq.heap.size wq _ ∧ _› : _ ∧ _).1 hb5))
          have hI5 := hide (hI4.out.stays (‹Below wq.heap.size wq w5 ∧ _› : _ ∧ _).1)
          clear key hC0 hb5 hb6 ka kb ia ib k0 k1 hI4 hgl hgsl
          cases b2
          · have hoa := hI5.out.oa
            have hob := hI5.out.ob
            have hra := hI5.out.ra
            have hrb := hI5.out.rb
            have hfa := hI5.out.fa
            have hfb := hI5.out.fb
            have hz := hI5.out.lt
            have hD := hide hI5.out.done
            go_wp2
            refine bodyPost_ret (v := .agg #[.int .i64 (f 0).a, .int .i64 (f 0).b]) (by simp [results, Try.results105, go_sem, hra, hrb, hz]) rfl ⟨rfl, ?_, hD.out.2⟩
            rw [← hS.out, siftDown_stop hlt (by rw [← hkid.out]; exact hb2.out.symm)]
            exact hD.out.1
          · obtain ⟨ka, kb⟩ := hI5.out.at'.cells k hkn
            obtain ⟨ia, ib⟩ := hI5.out.at'.cells i (by omega)
            have k0 := hI5.out.at'.c0
            have k1 := hI5.out.at'.c1
            have hgl := hI5.out.at'.lt
            have hgsl := hI5.out.at'.own.at_base.2
            have ffk := hI5.out.at'.frees (k * 2)
            have ffk1 := hI5.out.at'.frees (k * 2 + 1)
            have ffi := hI5.out.at'.frees (i * 2)
            have ffi1 := hI5.out.at'.frees (i * 2 + 1)
            go_wp2
            go_region
            go_wp2
            have hsw := hide (hI5.out.swap (show i < n by omega) hkn)
            have hgo := siftDown_go (lt := popGt) (n := n) (f := f') (i := i) hlt (by rw [← hkid.out]; exact hb2.out.symm)
            rw [← hkid.out] at hgo
            replace hgo := hide hgo
            go_roundw
            case rel =>
              refine ⟨k, swf f' i k, by omega, by go_num, hide ?_, hide ?_⟩
              · first | exact hsw.out.drew | exact hsw.out.drewN _
              · rw [← hS.out]; exact hgo.out.symm
            case measure => simp [intOf]; omega
      · have hkid := hide (show m = kid popGt n f' i by unfold kid; rw [← hm'.out, if_neg (by omega)])
        obtain ⟨k, rfl⟩ : ∃ k, k = m := ⟨_, rfl⟩
        have hkn := hmn
        have hik : i < k := by have := hm'.out; omega
        have im1 := hide (show IntKind.i64.wrap ((k : Int) + 1) = (k : Int) + 1 from IntWalk.i64_in _ (by omega))
        have im4 := hide (show decide ((k : Int) + 1 < (n : Int)) = false by simp; omega)
        clear hm
        go_wp2
        replace hq := hq.out
        simp only [hq]
        clear hq
        replace im1 := im1.out
        replace im4 := im4.out
        go_quiet (fail)
        clear im1 im4 ma mb k0 k1 hgl hgsl
        have hI4 := hide (hI.out.drewN nq)
        generalize wr.drewN nq = wq at hI4 ⊢
        go_wp2
        obtain ⟨ka, kb⟩ := hI4.out.at'.cells k hkn
        obtain ⟨ia, ib⟩ := hI4.out.at'.cells i (by omega)
        have k0 := hI4.out.at'.c0
        have k1 := hI4.out.at'.c1
        have hgl := hI4.out.at'.lt
        have hgsl := hI4.out.at'.own.at_base.2
        have ik : (0 : Int) ≤ (k : Int) ∧ (k : Int) < (n : Int) := by omega
        have ii : (0 : Int) ≤ (i : Int) ∧ (i : Int) < (n : Int) := by omega
        have hC0 := hide (more_any (f' k) (f' i))
        obtain ⟨b2, hb2⟩ : ∃ b, b = popGt (f' k) (f' i) := ⟨_, rfl⟩
        rw [← hb2] at hC0
        replace hb2 := hide hb2
        have key := hide (show ∀ w', Below wq.heap.size wq w' → (Below wq.heap.size wq w' ∧ w'.cell? ⟨g, 0, none⟩ = some (.func (.func 101) #[] #[]) ∧ w'.cell? ⟨g, 1, none⟩ = some (.slice (some ⟨gs, 0, none⟩) n c0) ∧ w'.cell? ⟨gs, k * 2, none⟩ = some (.int .i64 (f' k).a) ∧ w'.cell? ⟨gs, k * 2 + 1, none⟩ = some (.int .i64 (f' k).b) ∧ w'.cell? ⟨gs, i * 2, none⟩ = some (.int .i64 (f' i).a) ∧ w'.cell? ⟨gs, i * 2 + 1, none⟩ = some (.int .i64 (f' i).b)) from
          fun w' hb => ⟨hb, cu_below hb k0 hgl, cu_below hb k1 hgl, cu_below hb ka hgsl, cu_below hb kb hgsl, cu_below hb ia hgsl, cu_below hb ib hgsl⟩)
        go_region_held3 (fun w' => Below wq.heap.size wq w' ∧ w'.cell? ⟨g, 0, none⟩ = some (.func (.func 101) #[] #[]) ∧ w'.cell? ⟨g, 1, none⟩ = some (.slice (some ⟨gs, 0, none⟩) n c0) ∧ w'.cell? ⟨gs, k * 2, none⟩ = some (.int .i64 (f' k).a) ∧ w'.cell? ⟨gs, k * 2 + 1, none⟩ = some (.int .i64 (f' k).b) ∧ w'.cell? ⟨gs, i * 2, none⟩ = some (.int .i64 (f' i).a) ∧ w'.cell? ⟨gs, i * 2 + 1, none⟩ = some (.int .i64 (f' i).b))
          (first | exact key.out _ (below_drew _) | exact key.out _ (by assumption))
          (first | (go_at_call 101; refine (hC0.out _).mono ?_; rintro e w5 ⟨rfl, hb5⟩; have hb6 := below_step (‹Below wq.heap.size wq _ ∧ _› : _ ∧ _).1 hb5))
        have hI5 := hide (hI4.out.stays (‹Below wq.heap.size wq w5 ∧ _› : _ ∧ _).1)
        clear key hC0 hb5 hb6 ka kb ia ib k0 k1 hI4 hgl hgsl
        cases b2
        · have hoa := hI5.out.oa
          have hob := hI5.out.ob
          have hra := hI5.out.ra
          have hrb := hI5.out.rb
          have hfa := hI5.out.fa
          have hfb := hI5.out.fb
          have hz := hI5.out.lt
          have hD := hide hI5.out.done
          go_wp2
          refine bodyPost_ret (v := .agg #[.int .i64 (f 0).a, .int .i64 (f 0).b]) (by simp [results, Try.results105, go_sem, hra, hrb, hz]) rfl ⟨rfl, ?_, hD.out.2⟩
          rw [← hS.out, siftDown_stop hlt (by rw [← hkid.out]; exact hb2.out.symm)]
          exact hD.out.1
        · obtain ⟨ka, kb⟩ := hI5.out.at'.cells k hkn
          obtain ⟨ia, ib⟩ := hI5.out.at'.cells i (by omega)
          have k0 := hI5.out.at'.c0
          have k1 := hI5.out.at'.c1
          have hgl := hI5.out.at'.lt
          have hgsl := hI5.out.at'.own.at_base.2
          have ffk := hI5.out.at'.frees (k * 2)
          have ffk1 := hI5.out.at'.frees (k * 2 + 1)
          have ffi := hI5.out.at'.frees (i * 2)
          have ffi1 := hI5.out.at'.frees (i * 2 + 1)
          go_wp2
          go_region
          go_wp2
          have hsw := hide (hI5.out.swap (show i < n by omega) hkn)
          have hgo := siftDown_go (lt := popGt) (n := n) (f := f') (i := i) hlt (by rw [← hkid.out]; exact hb2.out.symm)
          rw [← hkid.out] at hgo
          replace hgo := hide hgo
          go_roundw
          case rel =>
            refine ⟨k, swf f' i k, by omega, by go_num, hide ?_, hide ?_⟩
            · first | exact hsw.out.drew | exact hsw.out.drewN _
            · rw [← hS.out]; exact hgo.out.symm
          case measure => simp [intOf]; omega
    · have hoa := hI.out.oa
      have hob := hI.out.ob
      have hra := hI.out.ra
      have hrb := hI.out.rb
      have hfa := hI.out.fa
      have hfb := hI.out.fb
      have hz := hI.out.lt
      have hD := hide hI.out.done
      go_wp2
      refine bodyPost_ret (v := .agg #[.int .i64 (f 0).a, .int .i64 (f 0).b]) (by simp [results, Try.results105, go_sem, hra, hrb, hz]) rfl ⟨rfl, ?_, hD.out.2⟩
      rw [← hS.out, siftDown_end hlt]
      exact hD.out.1
end Go.Proofs.Ytdpbkhempgghaaa
