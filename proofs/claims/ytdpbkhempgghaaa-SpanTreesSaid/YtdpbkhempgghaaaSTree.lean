/-
  What span's tree returns where it is to go on to the end: the edges taken. Conditions: a right net.
-/
import Derived.Test.YtdpbkhempgghaaaTreeP
import Derived.Test.YtdpbkhempgghaaaNeckT
namespace Go.Proofs.Ytdpbkhempgghaaa
open Go.RowKit
set_option linter.unusedSimpArgs false
set_option linter.unusedVariables false
/-- what the tree hands back -/
def TreeAll (es : List Ed) (w : World) (e : Ending) (w' : World) : Prop := ∃ v T, e = .returned v ∧ Taken es es.length T ∧ Own encI 1 3 w' w.heap.size v T ∧ Below w.heap.size w w'
theorem tree1_any (i : Nat) (u : Value) (w : World) : Calls Try.prog 114 #[.int .i64 (i : Int), u] w fun e w' => e = .returned (.bool true) ∧ w = w' := by
  go_enter Try.func114, Try.ntmps114
  go_wp2
  go_ret
  exact ⟨rfl, rfl⟩
set_option maxRecDepth 100000 in
set_option maxHeartbeats 4000000 in
theorem tree_all (n : Nat) (an : Option Addr) (cap : Nat) (es : List Ed) (w : World) (B : Nat) (hB : B ≤ w.heap.size) (hE : Row encE 3 w B an es) (hn1 : 1 ≤ n) (hn : n ≤ 64) (hl : es.length ≤ 600) (hes : Right n es) :
    Calls Try.prog 113 #[.agg #[.int .i64 (n : Int), .slice an es.length cap], .func (.func 114) #[] #[]] w (TreeAll es w) := by
  replace hE := hide hE
  replace hes := hide hes
  go_enter Try.func113, Try.ntmps113
  go_wp2
  obtain ⟨w0, h0⟩ : ∃ w0, w0 = w.alloc (.cells #[.int .i64 (n : Int), .slice an es.length cap] 32) := ⟨_, rfl⟩
  have hB0 := hide (show Below w.heap.size w w0 by rw [h0]; exact (Below.refl _ _).alloc (Nat.le_refl _) _)
  have c0 : w0.cell? ⟨w.heap.size, 0, none⟩ = some (.int .i64 (n : Int)) := by rw [h0]; simp [go_sem]
  have c1 : w0.cell? ⟨w.heap.size, 1, none⟩ = some (.slice an es.length cap) := by rw [h0]; simp [go_sem]
  have hz0 : w.heap.size < w0.heap.size := cell_lt c0
  simp only [← h0]
  replace h0 := hide h0
  go_loopw [5, 6, 7, 15] (fun s5 _ _ i wr => ∃ (k : Nat) (av : Option Addr) (cv : Nat), k ≤ es.length ∧ i = .int .i64 k ∧ s5 = .slice av k cv ∧ Hid (Own encP 2 88 wr w0.heap.size (.slice av k cv) (popsK es k)) ∧ Hid (Below w0.heap.size w0 wr)) (fun _ _ _ i _ => es.length - (intOf i).toNat)
  case atStart => exact ⟨0, none, 0, Nat.zero_le _, rfl, rfl, hide (Own.nil _ _), hide (Below.refl _ _)⟩
  case round =>
    obtain ⟨k, av, cv, hk, rfl, rfl, own, hbr⟩ := hrel
    have hzr := hbr.out.size
    by_cases hlt : k < es.length
    · have hbw := hide (hB0.out.trans (hbr.out.mono (by omega)))
      obtain ⟨eb, eo, rfl, heb, e0, e1, e2⟩ := hE.out.ed k hlt
      have e0 := cu_below hbw.out e0 (by simp; omega)
      have e1 := cu_below hbw.out e1 (by simp; omega)
      have e2 := cu_below hbw.out e2 (by simp; omega)
      have hbl := cell_lt e0
      obtain ⟨ed, hed⟩ : ∃ ed, ed = es[k] := ⟨_, rfl⟩
      have hpk := hide (show popsK es (k + 1) = popsK es k ++ [⟨ed.c, (k : Int)⟩] by rw [popsK_succ, edAt_c hlt, hed])
      rw [← hed] at e0 e1 e2
      replace hed := hide hed
      have ik : (0 : Int) ≤ (k : Int) ∧ (k : Int) < (es.length : Int) := by omega
      go_wp2_with (at_builtin; (refine wpList_push (e := 88) (enc := encP) (xs := popsK es k) (v := .slice av (k) cv) (base := w0.heap.size) rfl (.tmp 20) (.tmp 25) 82 rfl _ 16 Try.underlying82 info_pop rfl ?d11 lenP oneP (k) ?d21 ?d31 ?d41 ⟨wr.heap.size + 1, 0, none⟩ 1 (⟨ed.c, (k : Int)⟩ : P2) ?d51 ?d61 ?d71 ?d81 ?d91 ?_); (case d11 => omega); (case d21 => exact popsK_len _ _); (case d31 => rfl); (case d41 => exact (own.out.alloc _).alloc _); (case d51 => rfl); (case d61 => exact newP _ _ _ _ (by simp)); (case d71 => omega); (case d81 => unfold maxLen; omega); (case d91 => first | omega | (simp; done) | (simp; omega)); intro g1 c1 w1 own1 hb1 hgr1 hg1 hgl1; have hB1 := hide (unalloc (unalloc hb1 (by simp; omega)) (by omega)); replace own1 := hide own1; replace hb1 := hide hb1; replace hgr1 := hide hgr1)
      go_roundw
      case rel => exact ⟨k + 1, _, _, by omega, by go_num, rfl, hide (by rw [hpk.out]; exact own1.out), hide (hbr.out.trans hB1.out)⟩
      case measure => simp [intOf]; omega
    · obtain rfl : k = es.length := by omega
      have k0 := cu_below hbr.out c0 (by simpa using hz0)
      have k1 := cu_below hbr.out c1 (by simpa using hz0)
      have hbw := hide (hB0.out.trans (hbr.out.mono (by omega)))
      have hzw : w.heap.size < wr.heap.size := by omega
      obtain ⟨a', c', hv', hrp, _⟩ := own.out.row lenP
      injection hv' with g1 g2 g3
      subst g1 g3
      clear g2
      replace hrp := hide hrp
      clear c0 c1
      go_wp2_with fail
      refine (unew_any n _ hn).mono ?_
      rintro e w2 ⟨vU, ub, rfl, hub, hG, hb2⟩
      have hz2 := hb2.size
      have k2 := cu_below hb2 k0 (by simp; omega)
      have k3 := cu_below hb2 k1 (by simp; omega)
      replace hG := hide hG
      have hbw2 := hide (hbw.out.trans (hb2.mono (by omega)))
      have hrp2 := hide (hrp.out.below hb2 (Nat.le_refl _))
      clear hb2 k0 k1
      go_wp2_with fail
      refine (sort_any av cv es.length (popsK es es.length) (popsK_len _ _) w2 wr.heap.size hz2 hrp2.out (by omega)).mono ?_
      rintro e w3 ⟨vs, rfl, ownS, hb3⟩
      change Own encP 2 88 w3 w2.heap.size vs (orderOf es) at ownS
      obtain ⟨sa, cs, rfl⟩ := ownS.shape (n := es.length) (orderOf_len es)
      obtain ⟨gU, cU, rfl, hgU⟩ := hG.out.slice (by omega)
      have hgU2 := (hG.out.2.2.block_lt gU rfl).2
      have hz3 := hb3.size
      have k4 := cu_below hb3 k2 (by simp; omega)
      have k5 := cu_below hb3 k3 (by simp; omega)
      have hG3 := hide (hG.out.fresh hb3)
      have hbw3 := hide (hbw2.out.trans (hb3.mono (by omega)))
      have hblkS := hide ownS.block_lt
      have hrS : Row encP 2 w3 w3.heap.size sa (orderOf es) := by
        obtain ⟨a', c', hv', hr', _⟩ := ownS.row lenP
        injection hv' with g1 g2 g3
        subst g1
        exact hr'
      replace hrS := hide hrS
      have hE3 := hide (hE.out.below hbw3.out hB)
      have hT0 := hide (show Taken es 0 [] from rfl)
      have hD0 := hide (show Done (joinedK es 0) (joinedK es 0) (fun i => i) from by simpa [joinedK] using done_start [])
      clear hb3 k2 k3 ownS hG hrp hrp2 hbr own
      obtain ⟨wo, rfl⟩ : ∃ wo : World, wo = wr := ⟨_, rfl⟩
      go_wp2
      go_loopw [9, 11, 34] (fun s9 _ i wr => ∃ (k p : Nat) (av : Option Addr) (cv : Nat) (xs : List Int) (f : Nat → Nat), k ≤ es.length ∧ p ≤ k ∧ i = .int .i64 k ∧ s9 = .slice av p cv ∧ Hid (xs.length = p) ∧ Hid (Own encI 1 3 wr w3.heap.size (.slice av p cv) xs) ∧ Hid (Grp wr ub (.slice (some ⟨gU, 0, none⟩) n cU) n f) ∧ Hid (Done (joinedK es k) (joinedK es k) f) ∧ Hid (Taken es k xs) ∧ Hid (Keep (fun j => j = gU) w3 wr)) (fun _ _ i _ => es.length - (intOf i).toNat)
      case atStart => exact ⟨0, 0, none, 0, [], fun i => i, Nat.zero_le _, Nat.le_refl _, rfl, rfl, hide rfl, hide (Own.nil _ _), hG3, hD0, hT0, hide (Keep.refl _ _)⟩
      case round =>
        clear hG3 hT0 hD0
        obtain ⟨k, p, ao, co, xs, f, hk, hp, rfl, rfl, hxl, hown, hG, hD, hT, hK⟩ := hrel
        have hzr := hK.out.size
        have x0 := hK.out.cu k4 (by simp; omega)
        have x1 := hK.out.cu k5 (by simp; omega)
        by_cases hlt : k < es.length
        · have hko : k < (orderOf es).length := by rw [orderOf_len]; exact hlt
          obtain ⟨i, hi, hxe, hpa⟩ := orderOf_mem (List.getElem_mem hko)
          obtain ⟨b1, o1, rfl, hb1, s0, s1⟩ := hrS.out.p2 k hko
          have hb1U : b1 ≠ gU := by have := (hblkS.out b1 rfl).1; omega
          rw [hxe] at s0 s1
          have s0 := hK.out.cu s0 (by simpa using hb1U)
          have s1 := hK.out.cu s1 (by simpa using hb1U)
          simp only at s0 s1
          have hb1r := cell_lt s0
          obtain ⟨u, v, e1, e2, e3, e4, e5, e6, -⟩ := right_edge hes.out i hi
          have hp2 : pairAt es (orderOf es)[k] = (u, v) := by rw [hpa, e1, e2]; simp
          have hjk := joinedK_succ es k hko
          rw [hp2] at hjk
          obtain ⟨eb, eo, rfl, heb, q0, q1, q2⟩ := hE3.out.ed i hi
          have hebU : eb ≠ gU := by omega
          rw [e1] at q0
          rw [e2] at q1
          obtain ⟨ec, hec⟩ : ∃ ec, ec = es[i].c := ⟨_, rfl⟩
          rw [← hec] at q2 s0
          have hka : (orderOf es)[k].a = ec := by rw [hxe, hec]
          have r0 := hK.out.cu q0 (by simpa using hebU)
          have r1 := hK.out.cu q1 (by simpa using hebU)
          have hebr := cell_lt r0
          have hDn := hide (done_snoc hD.out (u, v))
          rw [← hjk] at hDn
          have hJ := hide (fun w' (hb : Below wr.heap.size wr w') => join_any ub n (.slice (some ⟨gU, 0, none⟩) n cU) f u v w' hD.out.1 (hG.out.fresh hb) e3 e4 hn)
          obtain ⟨jb, hjb⟩ : ∃ jb, jb = decide (root f u ≠ root f v) := ⟨_, rfl⟩
          rw [← hjb] at hJ
          have hxb : (orderOf es)[k].b = (i : Int) := by rw [hxe]
          have hcn : jb = true ↔ ¬ Conn (prs es xs) u v := by rw [hjb, decide_eq_true_eq, taken_conn hT.out, ← done_conn hD.out]
          have hTt := hide (show jb = true → Taken es (k + 1) (xs ++ [(i : Int)]) from fun h => ⟨xs, hT.out, hko, .inr ⟨by rw [hp2]; exact hcn.1 h, by rw [hxb]⟩⟩)
          have hTf := hide (show jb = false → Taken es (k + 1) xs from fun h => ⟨xs, hT.out, hko, .inl ⟨by rw [hp2]; exact Classical.byContradiction (fun hc => by have := hcn.2 hc; rw [h] at this; exact absurd this (by simp)), rfl⟩⟩)
          clear hxb hcn
          have hjf := hide (show jb = false → ∀ j, root (joined f u v) j = root f j from fun h j => joined_equal hD.out.1 (by rw [hjb] at h; simpa using h) j)
          have ik : (0 : Int) ≤ (k : Int) ∧ (k : Int) < (es.length : Int) := by omega
          have ii : (0 : Int) ≤ (i : Int) ∧ (i : Int) < (es.length : Int) := by omega
          replace hjb := hide hjb
          replace hec := hide hec
          replace hka := hide hka
          replace hxe := hide hxe
          replace hpa := hide hpa
          replace hp2 := hide hp2
          replace e1 := hide e1
          replace e2 := hide e2
          replace hjk := hide hjk
          clear e5 e6
          have hwB : ∀ w', Below wr.heap.size (wr.alloc (.cells #[.int .i64 ec, .int .i64 (i : Int)] 88)) w' → Below wr.heap.size wr w' := fun w' h => unalloc h (Nat.le_refl _)
          replace hwB := hide hwB
          have hzx : w.heap.size < wr.heap.size := by omega
          have key := hide (show ∀ w', Below (wr.heap.size + 1) (wr.alloc (.cells #[.int .i64 ec, .int .i64 (i : Int)] 88)) w' → (Below wr.heap.size wr w' ∧ w'.cell? ⟨wr.heap.size, 1, none⟩ = some (.int .i64 (i : Int)) ∧ w'.cell? ⟨w.heap.size, 1, none⟩ = some (.slice (some ⟨eb, eo, none⟩) es.length cap) ∧ w'.cell? ⟨eb, eo + i * 3, none⟩ = some (.int .i64 (u : Int)) ∧ w'.cell? ⟨eb, eo + i * 3 + 1, none⟩ = some (.int .i64 (v : Int))) from fun w' h =>
            ⟨unalloc (h.mono (by omega)) (Nat.le_refl _), cu_below h (by simp [go_sem]) (by simp), cu_below h (cu_alloc x1) (by simp; omega), cu_below h (cu_alloc r0) (by simp; omega), cu_below h (cu_alloc r1) (by simp; omega)⟩)
          have hb1x : b1 < wr.heap.size := hb1r
          have hebx : eb < wr.heap.size := hebr
          go_wp2
          refine wp_region_end (S := (fun w' => Below wr.heap.size wr w' ∧ w'.cell? ⟨wr.heap.size, 1, none⟩ = some (.int .i64 (i : Int)) ∧ w'.cell? ⟨w.heap.size, 1, none⟩ = some (.slice (some ⟨eb, eo, none⟩) es.length cap) ∧ w'.cell? ⟨eb, eo + i * 3, none⟩ = some (.int .i64 (u : Int)) ∧ w'.cell? ⟨eb, eo + i * 3 + 1, none⟩ = some (.int .i64 (v : Int)))) (t := 15) (by kernel_rfl) ?_ (fun hHeld hInv => ?_)
          · exact key.out _ (up_drew (Below.refl _ _))
          replace hInv := hide hInv
          refine wpAnyE_take (i := 0) (v := ?_) (List.getElem?_toArray.trans rfl) (by kernel_rfl) (by kernel_rfl) (by kernel_rfl) (by kernel_rfl) (fun _ _ _ h => h) (Or.inl ⟨by rfl, ?_⟩) hInv.out (by assumption) (fun hInv' => ?_)
          rotate_left
          · intro w hSw; (try dsimp only at hSw); go_simp; (try with_reducible rfl)
          replace hInv := hide hInv'; clear hInv'; try simp only [Act.put, List.setIfInBounds_toArray, List.set_cons_zero, List.set_cons_succ]
          refine wpAnyE_take (i := 1) (v := ?_) (List.getElem?_toArray.trans rfl) (by kernel_rfl) (by kernel_rfl) (by kernel_rfl) (by kernel_rfl) (fun _ _ _ h => h) (Or.inl ⟨by rfl, ?_⟩) hInv.out (by assumption) (fun hInv' => ?_)
          rotate_left
          · intro w hSw; (try dsimp only at hSw); go_simp; (try with_reducible rfl)
          replace hInv := hide hInv'; clear hInv'; try simp only [Act.put, List.setIfInBounds_toArray, List.set_cons_zero, List.set_cons_succ]
          refine wpAnyE_take (i := 2) (v := ?_) (List.getElem?_toArray.trans rfl) (by kernel_rfl) (by kernel_rfl) (by kernel_rfl) (by kernel_rfl) (fun _ _ _ h => h) (Or.inl ⟨by rfl, ?_⟩) hInv.out (by assumption) (fun hInv' => ?_)
          rotate_left
          · intro w hSw; (try dsimp only at hSw); go_simp; (try with_reducible rfl)
          replace hInv := hide hInv'; clear hInv'; try simp only [Act.put, List.setIfInBounds_toArray, List.set_cons_zero, List.set_cons_succ]
          refine wpAnyE_take (i := 3) (v := ?_) (List.getElem?_toArray.trans rfl) (by kernel_rfl) (by kernel_rfl) (by kernel_rfl) (by kernel_rfl) (fun _ _ _ h => h) (Or.inl ⟨by rfl, ?_⟩) hInv.out (by assumption) (fun hInv' => ?_)
          rotate_left
          · intro w hSw; (try dsimp only at hSw); go_simp; (try with_reducible rfl)
          replace hInv := hide hInv'; clear hInv'; try simp only [Act.put, List.setIfInBounds_toArray, List.set_cons_zero, List.set_cons_succ]
          refine wpAnyE_take (i := 4) (v := ?_) (List.getElem?_toArray.trans rfl) (by kernel_rfl) (by kernel_rfl) (by kernel_rfl) (by kernel_rfl) (fun _ _ _ h => h) (Or.inl ⟨by rfl, ?_⟩) hInv.out (by assumption) (fun hInv' => ?_)
          rotate_left
          · intro w hSw; (try dsimp only at hSw); go_simp; (try with_reducible rfl)
          replace hInv := hide hInv'; clear hInv'; try simp only [Act.put, List.setIfInBounds_toArray, List.set_cons_zero, List.set_cons_succ]
          refine wpAnyE_take (i := 5) (v := ?_) (List.getElem?_toArray.trans rfl) (by kernel_rfl) (by kernel_rfl) (by kernel_rfl) (by kernel_rfl) (fun _ _ _ h => h) (Or.inl ⟨by rfl, ?_⟩) hInv.out (by assumption) (fun hInv' => ?_)
          rotate_left
          · intro w hSw; (try dsimp only at hSw); go_simp; (try with_reducible rfl)
          replace hInv := hide hInv'; clear hInv'; try simp only [Act.put, List.setIfInBounds_toArray, List.set_cons_zero, List.set_cons_succ]
          refine wpAnyE_take (i := 6) (v := ?_) (List.getElem?_toArray.trans rfl) (by kernel_rfl) (by kernel_rfl) (by kernel_rfl) (by kernel_rfl) (fun _ _ _ h => h) (Or.inl ⟨by rfl, ?_⟩) hInv.out (by assumption) (fun hInv' => ?_)
          rotate_left
          · intro w hSw; (try dsimp only at hSw); go_simp; (try with_reducible rfl)
          replace hInv := hide hInv'; clear hInv'; try simp only [Act.put, List.setIfInBounds_toArray, List.set_cons_zero, List.set_cons_succ]
          refine wpAnyE_take (i := 7) (v := ?_) (List.getElem?_toArray.trans rfl) (by kernel_rfl) (by kernel_rfl) (by kernel_rfl) (by kernel_rfl) (fun _ _ _ h => h) (Or.inl ⟨by rfl, ?_⟩) hInv.out (by assumption) (fun hInv' => ?_)
          rotate_left
          · intro w hSw; (try dsimp only at hSw); go_simp; (try with_reducible rfl)
          replace hInv := hide hInv'; clear hInv'; try simp only [Act.put, List.setIfInBounds_toArray, List.set_cons_zero, List.set_cons_succ]
          refine wpAnyE_take (i := 8) (v := ?_) (List.getElem?_toArray.trans rfl) (by kernel_rfl) (by kernel_rfl) (by kernel_rfl) (by kernel_rfl) (fun _ _ _ h => h) (Or.inl ⟨by rfl, ?_⟩) hInv.out (by assumption) (fun hInv' => ?_)
          rotate_left
          · intro w hSw; (try dsimp only at hSw); go_simp; (try with_reducible rfl)
          replace hInv := hide hInv'; clear hInv'; try simp only [Act.put, List.setIfInBounds_toArray, List.set_cons_zero, List.set_cons_succ]
          refine wpAnyE_take (i := 9) (v := ?_) (List.getElem?_toArray.trans rfl) (by kernel_rfl) (by kernel_rfl) (by kernel_rfl) (by kernel_rfl) (fun _ _ _ h => h) (Or.inl ⟨by rfl, ?_⟩) hInv.out (by assumption) (fun hInv' => ?_)
          rotate_left
          · intro w hSw; (try dsimp only at hSw); go_simp; (try with_reducible rfl)
          replace hInv := hide hInv'; clear hInv'; try simp only [Act.put, List.setIfInBounds_toArray, List.set_cons_zero, List.set_cons_succ]
          refine wpAnyE_take (i := 10) (v := ?_) (List.getElem?_toArray.trans rfl) (by kernel_rfl) (by kernel_rfl) (by kernel_rfl) (by kernel_rfl) (fun _ _ _ h => h) (Or.inl ⟨by rfl, ?_⟩) hInv.out (by assumption) (fun hInv' => ?_)
          rotate_left
          · intro w hSw; (try dsimp only at hSw); go_simp; (try with_reducible rfl)
          replace hInv := hide hInv'; clear hInv'; try simp only [Act.put, List.setIfInBounds_toArray, List.set_cons_zero, List.set_cons_succ]
          refine wpAnyE_take (i := 11) (v := ?_) (List.getElem?_toArray.trans rfl) (by kernel_rfl) (by kernel_rfl) (by kernel_rfl) (by kernel_rfl) (fun _ _ _ h => h) (Or.inl ⟨by rfl, ?_⟩) hInv.out (by assumption) (fun hInv' => ?_)
          rotate_left
          · intro w hSw; (try dsimp only at hSw); go_simp; (try with_reducible rfl)
          replace hInv := hide hInv'; clear hInv'; try simp only [Act.put, List.setIfInBounds_toArray, List.set_cons_zero, List.set_cons_succ]
          refine wpAnyE_take (i := 12) (v := ?_) (List.getElem?_toArray.trans rfl) (by kernel_rfl) (by kernel_rfl) (by kernel_rfl) (by kernel_rfl) (fun _ _ _ h => h) (Or.inl ⟨by rfl, ?_⟩) hInv.out (by assumption) (fun hInv' => ?_)
          rotate_left
          · intro w hSw; (try dsimp only at hSw); go_simp; (try with_reducible rfl)
          replace hInv := hide hInv'; clear hInv'; try simp only [Act.put, List.setIfInBounds_toArray, List.set_cons_zero, List.set_cons_succ]
          refine wpAnyE_take (i := 13) (v := ?_) (List.getElem?_toArray.trans rfl) (by kernel_rfl) (by kernel_rfl) (by kernel_rfl) (by kernel_rfl) (fun _ _ _ h => h) (Or.inl ⟨by rfl, ?_⟩) hInv.out (by assumption) (fun hInv' => ?_)
          rotate_left
          · intro w hSw; (try dsimp only at hSw); go_simp; (try with_reducible rfl)
          replace hInv := hide hInv'; clear hInv'; try simp only [Act.put, List.setIfInBounds_toArray, List.set_cons_zero, List.set_cons_succ]
          refine wpAnyE_take (i := 14) (v := ?_) (List.getElem?_toArray.trans rfl) (by kernel_rfl) (by kernel_rfl) (by kernel_rfl) (by kernel_rfl) (fun _ _ _ h => h) (Or.inl ⟨by rfl, ?_⟩) hInv.out (by assumption) (fun hInv' => ?_)
          rotate_left
          · intro w hSw; (try dsimp only at hSw); go_simp; (try with_reducible rfl)
          replace hInv := hide hInv'; clear hInv'; try simp only [Act.put, List.setIfInBounds_toArray, List.set_cons_zero, List.set_cons_succ]
          refine wpAnyE_one (i := 15) (List.getElem?_toArray.trans rfl) (by kernel_rfl) (fun K hK => ?_) hInv.out
          (go_simp; go_at_call 147; refine (hJ.out _ (hwB.out _ (up_drew (Below.refl _ _)))).mono ?_; rintro e w5 ⟨rfl, f5, hf5, hr5, hG5, hK5⟩)
          refine hK.out _ _ (fun h => absurd rfl h) (fun _ => ?_)
          clear hK K hInv; try simp only [Act.put, List.setIfInBounds_toArray, List.set_cons_zero, List.set_cons_succ]
          refine wpAnyE_done (by kernel_rfl) ?_ _
          next =>
            have hKr := hide (show Keep (fun j => j = gU) wr w5 from by first | exact ((Keep.refl _ wr).alloc _).trans (hK5.mono (fun j _ h => (blk_slice.1 h).symm)) | exact ((Keep.refl _ wr).alloc _).drew.trans (hK5.mono (fun j _ h => (blk_slice.1 h).symm)))
            have hK6 := hide (hK.out.trans hKr.out)
            have hz5 : wr.heap.size + 1 ≤ w5.heap.size := by have := hK5.size; simpa using this
            have y1 : w5.cell? ⟨wr.heap.size, 1, none⟩ = some (.int .i64 (i : Int)) := hK5.cu (by simp [go_sem]) (by rw [blk_slice]; simp; omega)
            have hown5 := hide (hKr.out.own hown.out (fun j hj e => by have := (hown.out.block_lt j hj).1; omega))
            have hbl5 := hide hown.out.block_lt
            have hD5 := hide (done_same hDn.out hf5 hr5)
            replace hf5 := hide hf5
            replace hr5 := hide hr5
            replace hG5 := hide hG5
            clear hK5 hJ x0 x1 s0 s1 r0 r1 q0 q1
            cases jb with
            | false =>
              have hT5 := hide (hTf.out rfl)
              clear hTt hTf
              go_wp2
              go_roundw
              case rel => exact ⟨k + 1, p, ao, co, xs, f5, by omega, by omega, by go_num, rfl, hxl, hown5, hG5, hD5, hT5, hK6⟩
              case measure => simp [intOf]; omega
            | true =>
              have hT5 := hide (hTt.out rfl)
              clear hTt hTf
              go_wp2_with (at_builtin; (refine wpList_push (e := 3) (enc := encI) (xs := xs) (v := .slice ao (p) co) (base := w3.heap.size) rfl (.tmp 54) (.tmp 57) 22 rfl _ 8 Try.underlying22 info_int rfl ?d11 lenI oneI (p) ?d21 ?d31 ?d41 ⟨w5.heap.size, 0, none⟩ 1 (i : Int) ?d51 ?d61 ?d71 ?d81 ?d91 ?_); (case d11 => omega); (case d21 => exact hxl.out); (case d31 => rfl); (case d41 => exact (hown5.out.alloc _)); (case d51 => rfl); (case d61 => exact newI _ _ _ _ rfl); (case d71 => omega); (case d81 => unfold maxLen; omega); (case d91 => first | omega | (simp; done) | (simp; omega)); intro g1 c1 w1 own1 hb1 hgr1 hg1 hgl1; have hKp := ((Keep.refl (fun j => (Value.slice ao p co).ownBlock = some j) w5).alloc (.cells #[.int .i64 (i : Int)] 3)).grown hgr1 (fun j hj => .inl hj); have hG6 := hide (hG5.out.keep hKp (fun e => by have := (hbl5.out _ e).1; omega) (fun j hj e => by have := (hbl5.out _ e).1; simp [Value.ownBlock] at hj; omega)); have hK7 := hide (hK6.out.trans2 hKp (fun j hj => .inr (hbl5.out j hj).1)); have y2 := hKp.cu y1 (fun e => by have := (hbl5.out _ e).2; simp at this); replace own1 := hide own1; replace hb1 := hide hb1; replace hgr1 := hide hgr1; replace hKp := hide hKp)
              refine (tree1_any i _ _).mono ?_
              rintro e w7 ⟨rfl, rfl⟩
              go_wp2
              go_roundw
              case rel => exact ⟨k + 1, p + 1, _, _, xs ++ [(i : Int)], f5, by omega, by omega, by go_num, rfl, hide (by simp [hxl.out]), own1, hG6, hD5, hT5, hK7⟩
              case measure => simp [intOf]; omega
        · obtain rfl : k = es.length := by omega
          have hfin := hide (hbw3.out.trans (hK.out.toBelow (B := w.heap.size) (fun j hj => by omega) (by omega)))
          have hown9 := hide (hown.out.base_le (base' := w.heap.size) (by omega))
          go_wp2
          go_ret
          exact ⟨_, xs, rfl, hT.out, hown9.out, hfin.out⟩
end Go.Proofs.Ytdpbkhempgghaaa
