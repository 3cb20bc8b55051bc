/-
  What the reference's Tree returns: the edges taken. Conditions: a right net.
-/
import Derived.Test.YtdpbkhempgghaaaSTree
import Derived.Test.YtdpbkhempgghaaaRSorted
namespace Go.Proofs.Ytdpbkhempgghaaa
open Go.RowKit
set_option linter.unusedSimpArgs false
set_option linter.unusedVariables false
set_option maxRecDepth 100000 in
set_option maxHeartbeats 2000000 in
theorem rtree_any (n : Nat) (an : Option Addr) (cap : Nat) (es : List Ed) (w : World) (B : Nat) (hB : B ≤ w.heap.size) (hE : Row encE 3 w B an es) (hn1 : 1 ≤ n) (hn : n ≤ 64) (hl : es.length ≤ 600) (hes : Right n es) :
    Calls Try.prog 57 #[.agg #[.int .i64 (n : Int), .slice an es.length cap]] w (TreeAll es w) := by
  replace hE := hide hE
  replace hes := hide hes
  go_enter Try.func57, Try.ntmps57
  go_wp2
  obtain ⟨w0, h0⟩ : ∃ w0, w0 = w.alloc (.cells #[.int .i64 (n : Int), .slice an es.length cap] 32) := ⟨_, rfl⟩
  have hB0 := hide (show Below w.heap.size w w0 by rw [h0]; exact (Below.refl _ _).alloc (Nat.le_refl _) _)
  have c0 : w0.cell? ⟨w.heap.size, 0, none⟩ = some (.int .i64 (n : Int)) := by rw [h0]; simp [go_sem]
  have c1 : w0.cell? ⟨w.heap.size, 1, none⟩ = some (.slice an es.length cap) := by rw [h0]; simp [go_sem]
  have hz0 : w.heap.size < w0.heap.size := cell_lt c0
  simp only [← h0]
  replace h0 := hide h0
  go_loopw [3, 4, 5, 12] (fun s5 _ _ i wr => ∃ (k : Nat) (av : Option Addr) (cv : Nat), k ≤ es.length ∧ i = .int .i64 k ∧ s5 = .slice av k cv ∧ Hid (Own encP 2 88 wr w0.heap.size (.slice av k cv) (popsK es k)) ∧ Hid (Below w0.heap.size w0 wr)) (fun _ _ _ i _ => es.length - (intOf i).toNat)
  case atStart => exact ⟨0, none, 0, Nat.zero_le _, rfl, rfl, hide (Own.nil _ _), hide (Below.refl _ _)⟩
  case round =>
    obtain ⟨k, av, cv, hk, rfl, rfl, own, hbr⟩ := hrel
    have hzr := hbr.out.size
    by_cases hlt : k < es.length
    · have hbw := hide (hB0.out.trans (hbr.out.mono (by omega)))
      obtain ⟨eb, eo, rfl, heb, e0, e1, e2⟩ := hE.out.ed k hlt
      have e0 := cu_below hbw.out e0 (by simp; omega)
      have e1 := cu_below hbw.out e1 (by simp; omega)
      have e2 := cu_below hbw.out e2 (by simp; omega)
      have hbl := cell_lt e0
      obtain ⟨ed, hed⟩ : ∃ ed, ed = es[k] := ⟨_, rfl⟩
      have hpk := hide (show popsK es (k + 1) = popsK es k ++ [⟨ed.c, (k : Int)⟩] by rw [popsK_succ, edAt_c hlt, hed])
      rw [← hed] at e0 e1 e2
      replace hed := hide hed
      have ik : (0 : Int) ≤ (k : Int) ∧ (k : Int) < (es.length : Int) := by omega
      go_wp2_with (at_builtin; (refine wpList_push (e := 88) (enc := encP) (xs := popsK es k) (v := .slice av (k) cv) (base := w0.heap.size) rfl (.tmp 17) (.tmp 22) 82 rfl _ 16 Try.underlying82 info_pop rfl ?d11 lenP oneP (k) ?d21 ?d31 ?d41 ⟨wr.heap.size + 1, 0, none⟩ 1 (⟨ed.c, (k : Int)⟩ : P2) ?d51 ?d61 ?d71 ?d81 ?d91 ?_); (case d11 => omega); (case d21 => exact popsK_len _ _); (case d31 => rfl); (case d41 => exact (own.out.alloc _).alloc _); (case d51 => rfl); (case d61 => exact newP _ _ _ _ (by simp)); (case d71 => omega); (case d81 => unfold maxLen; omega); (case d91 => first | omega | (simp; done) | (simp; omega)); intro g1 c1 w1 own1 hb1 hgr1 hg1 hgl1; have hB1 := hide (unalloc (unalloc hb1 (by simp; omega)) (by omega)); replace own1 := hide own1; replace hb1 := hide hb1; replace hgr1 := hide hgr1)
      go_roundw
      case rel => exact ⟨k + 1, _, _, by omega, by go_num, rfl, hide (by rw [hpk.out]; exact own1.out), hide (hbr.out.trans hB1.out)⟩
      case measure => simp [intOf]; omega
    · obtain rfl : k = es.length := by omega
      have k0 := cu_below hbr.out c0 (by simpa using hz0)
      have k1 := cu_below hbr.out c1 (by simpa using hz0)
      have hbw := hide (hB0.out.trans (hbr.out.mono (by omega)))
      have hzw : w.heap.size < wr.heap.size := by omega
      obtain ⟨a', c', hv', hrp, _⟩ := own.out.row lenP
      injection hv' with g1 g2 g3
      subst g1 g3
      clear g2
      replace hrp := hide hrp
      clear c0 c1
      go_wp2_with fail
      refine (rsorted_any av cv es.length (popsK es es.length) (popsK_len _ _) wr wr.heap.size (Nat.le_refl _) hrp.out (by omega)).mono ?_
      rintro e w3 ⟨vs, rfl, ownS, hb3⟩
      change Own encP 2 88 w3 wr.heap.size vs (orderOf es) at ownS
      obtain ⟨sa, cs, rfl⟩ := ownS.shape (n := es.length) (orderOf_len es)
      have hz3 := hb3.size
      have k4 := cu_below hb3 k0 (by simp; omega)
      have k5 := cu_below hb3 k1 (by simp; omega)
      have hbw3 := hide (hbw.out.trans (hb3.mono (by omega)))
      have hrS : Row encP 2 w3 w3.heap.size sa (orderOf es) := by
        obtain ⟨a', c', hv', hr', _⟩ := ownS.row lenP
        injection hv' with g1 g2 g3
        subst g1
        exact hr'
      replace hrS := hide hrS
      have hE3 := hide (hE.out.below hbw3.out hB)
      have hT0 := hide (show Taken es 0 [] from rfl)
      clear hb3 k0 k1 ownS hrp hbr own
      obtain ⟨wo, rfl⟩ : ∃ wo : World, wo = wr := ⟨_, rfl⟩
      go_wp2
      go_loopw [6, 8, 28] (fun s9 _ i wr => ∃ (k p : Nat) (av : Option Addr) (cv : Nat) (xs : List Int), k ≤ es.length ∧ p ≤ k ∧ i = .int .i64 k ∧ s9 = .slice av p cv ∧ Hid (xs.length = p) ∧ Hid (Own encI 1 3 wr w3.heap.size (.slice av p cv) xs) ∧ Hid (Taken es k xs) ∧ Hid (Below w3.heap.size w3 wr)) (fun _ _ i _ => es.length - (intOf i).toNat)
      case atStart => exact ⟨0, 0, none, 0, [], Nat.zero_le _, Nat.le_refl _, rfl, rfl, hide rfl, hide (Own.nil _ _), hT0, hide (Below.refl _ _)⟩
      case round =>
        clear hT0
        obtain ⟨k, p, ao, co, xs, hk, hp, rfl, rfl, hxl, hown, hT, hK⟩ := hrel
        have hzr := hK.out.size
        have x0 := cu_below hK.out k4 (by simp; omega)
        have x1 := cu_below hK.out k5 (by simp; omega)
        by_cases hlt : k < es.length
        · have hko : k < (orderOf es).length := by rw [orderOf_len]; exact hlt
          obtain ⟨i, hi, hxe, hpa⟩ := orderOf_mem (List.getElem_mem hko)
          obtain ⟨b1, o1, rfl, hb1, s0, s1⟩ := hrS.out.p2 k hko
          rw [hxe] at s0 s1
          have s0 := cu_below hK.out s0 (by simpa using hb1)
          have s1 := cu_below hK.out s1 (by simpa using hb1)
          simp only at s0 s1
          have hb1r := cell_lt s0
          obtain ⟨u, v, e1, e2, e3, e4, e5, e6, -⟩ := right_edge hes.out i hi
          have hp2 : pairAt es (orderOf es)[k] = (u, v) := by rw [hpa, e1, e2]; simp
          obtain ⟨eb, eo, rfl, heb, q0, q1, q2⟩ := hE3.out.ed i hi
          rw [e1] at q0
          rw [e2] at q1
          have r0 := cu_below hK.out q0 (by simp; omega)
          have r1 := cu_below hK.out q1 (by simp; omega)
          have hebr := cell_lt r0
          have hbwr := hide (hbw3.out.trans (hK.out.mono (by omega)))
          have hEr := hide (hE.out.below hbwr.out hB)
          have hOr := hide (show Row encI 1 wr wr.heap.size ao xs by
            obtain ⟨a', c', hv', hr', _⟩ := hown.out.row lenI
            injection hv' with g1 g2 g3
            subst g1
            exact hr')
          obtain ⟨tl, tm⟩ := taken_mem hT.out
          have hJ := hide (fun (w' : World) (hb : Below wr.heap.size wr w') => rjoined_any n (some ⟨eb, eo, none⟩) cap es ao co p xs u v w' wr.heap.size hb.size ((hEr.out.below hb (by omega)).mono (by omega)) (hOr.out.below hb (Nat.le_refl _)) hxl.out (by omega) hn hes.out tm hl e3 e4)
          have hxb : (orderOf es)[k].b = (i : Int) := by rw [hxe]
          have hTt := hide (show ∀ jb : Bool, (jb = true ↔ Conn (prs es xs) u v) → jb = false → Taken es (k + 1) (xs ++ [(i : Int)]) from fun jb hcn h => ⟨xs, hT.out, hko, .inr ⟨by rw [hp2]; exact fun hc => by have := hcn.2 hc; rw [h] at this; exact absurd this (by simp), by rw [hxb]⟩⟩)
          have hTf := hide (show ∀ jb : Bool, (jb = true ↔ Conn (prs es xs) u v) → jb = true → Taken es (k + 1) xs from fun jb hcn h => ⟨xs, hT.out, hko, .inl ⟨by rw [hp2]; exact hcn.1 h, rfl⟩⟩)
          obtain ⟨ec, hec⟩ : ∃ ec, ec = es[i].c := ⟨_, rfl⟩
          rw [← hec] at q2 s0
          have ik : (0 : Int) ≤ (k : Int) ∧ (k : Int) < (es.length : Int) := by omega
          have ii : (0 : Int) ≤ (i : Int) ∧ (i : Int) < (es.length : Int) := by omega
          replace hec := hide hec
          replace hxe := hide hxe
          replace hpa := hide hpa
          replace hp2 := hide hp2
          replace hxb := hide hxb
          replace e1 := hide e1
          replace e2 := hide e2
          clear e5 e6 tm
          have hwB : ∀ w', Below wr.heap.size (wr.alloc (.cells #[.int .i64 ec, .int .i64 (i : Int)] 88)) w' → Below wr.heap.size wr w' := fun w' h => unalloc h (Nat.le_refl _)
          replace hwB := hide hwB
          have hzx : w.heap.size < wr.heap.size := by omega
          have key := hide (show ∀ w', Below (wr.heap.size + 1) (wr.alloc (.cells #[.int .i64 ec, .int .i64 (i : Int)] 88)) w' → (Below (wr.heap.size + 1) (wr.alloc (.cells #[.int .i64 ec, .int .i64 (i : Int)] 88)) w' ∧ w'.cell? ⟨wr.heap.size, 1, none⟩ = some (.int .i64 (i : Int)) ∧ w'.cell? ⟨w.heap.size, 0, none⟩ = some (.int .i64 (n : Int)) ∧ w'.cell? ⟨w.heap.size, 1, none⟩ = some (.slice (some ⟨eb, eo, none⟩) es.length cap) ∧ w'.cell? ⟨eb, eo + i * 3, none⟩ = some (.int .i64 (u : Int)) ∧ w'.cell? ⟨eb, eo + i * 3 + 1, none⟩ = some (.int .i64 (v : Int))) from fun w' h =>
            ⟨h, cu_below h (by simp [go_sem]) (by simp), cu_below h (cu_alloc x0) (by simp; omega), cu_below h (cu_alloc x1) (by simp; omega), cu_below h (cu_alloc r0) (by simp; omega), cu_below h (cu_alloc r1) (by simp; omega)⟩)
          have hb1x : b1 < wr.heap.size := hb1r
          have hebx : eb < wr.heap.size := hebr
          go_wp2
          refine wp_region_end (S := (fun w' => Below (wr.heap.size + 1) (wr.alloc (.cells #[.int .i64 ec, .int .i64 (i : Int)] 88)) w' ∧ w'.cell? ⟨wr.heap.size, 1, none⟩ = some (.int .i64 (i : Int)) ∧ w'.cell? ⟨w.heap.size, 0, none⟩ = some (.int .i64 (n : Int)) ∧ w'.cell? ⟨w.heap.size, 1, none⟩ = some (.slice (some ⟨eb, eo, none⟩) es.length cap) ∧ w'.cell? ⟨eb, eo + i * 3, none⟩ = some (.int .i64 (u : Int)) ∧ w'.cell? ⟨eb, eo + i * 3 + 1, none⟩ = some (.int .i64 (v : Int)))) (t := 17) (by kernel_rfl) ?_ (fun hHeld hInv => ?_)
          · exact key.out _ (up_drew (Below.refl _ _))
          replace hInv := hide hInv
          refine wpAnyE_take (i := 0) (v := ?_) (List.getElem?_toArray.trans rfl) (by kernel_rfl) (by kernel_rfl) (by kernel_rfl) (by kernel_rfl) (fun _ _ _ h => h) (Or.inl ⟨by rfl, ?_⟩) hInv.out (by assumption) (fun hInv' => ?_)
          rotate_left
          · intro w hSw; (try dsimp only at hSw); go_simp; (try with_reducible rfl)
          replace hInv := hide hInv'; clear hInv'; try simp only [Act.put, List.setIfInBounds_toArray, List.set_cons_zero, List.set_cons_succ]
          refine wpAnyE_take (i := 1) (v := ?_) (List.getElem?_toArray.trans rfl) (by kernel_rfl) (by kernel_rfl) (by kernel_rfl) (by kernel_rfl) (fun _ _ _ h => h) (Or.inl ⟨by rfl, ?_⟩) hInv.out (by assumption) (fun hInv' => ?_)
          rotate_left
          · intro w hSw; (try dsimp only at hSw); go_simp; (try with_reducible rfl)
          replace hInv := hide hInv'; clear hInv'; try simp only [Act.put, List.setIfInBounds_toArray, List.set_cons_zero, List.set_cons_succ]
          refine wpAnyE_take (i := 2) (v := ?_) (List.getElem?_toArray.trans rfl) (by kernel_rfl) (by kernel_rfl) (by kernel_rfl) (by kernel_rfl) (fun _ _ _ h => h) (Or.inl ⟨by rfl, ?_⟩) hInv.out (by assumption) (fun hInv' => ?_)
          rotate_left
          · intro w hSw; (try dsimp only at hSw); go_simp; (try with_reducible rfl)
          replace hInv := hide hInv'; clear hInv'; try simp only [Act.put, List.setIfInBounds_toArray, List.set_cons_zero, List.set_cons_succ]
          refine wpAnyE_take (i := 3) (v := ?_) (List.getElem?_toArray.trans rfl) (by kernel_rfl) (by kernel_rfl) (by kernel_rfl) (by kernel_rfl) (fun _ _ _ h => h) (Or.inl ⟨by rfl, ?_⟩) hInv.out (by assumption) (fun hInv' => ?_)
          rotate_left
          · intro w hSw; (try dsimp only at hSw); go_simp; (try with_reducible rfl)
          replace hInv := hide hInv'; clear hInv'; try simp only [Act.put, List.setIfInBounds_toArray, List.set_cons_zero, List.set_cons_succ]
          refine wpAnyE_take (i := 4) (v := ?_) (List.getElem?_toArray.trans rfl) (by kernel_rfl) (by kernel_rfl) (by kernel_rfl) (by kernel_rfl) (fun _ _ _ h => h) (Or.inl ⟨by rfl, ?_⟩) hInv.out (by assumption) (fun hInv' => ?_)
          rotate_left
          · intro w hSw; (try dsimp only at hSw); go_simp; (try with_reducible rfl)
          replace hInv := hide hInv'; clear hInv'; try simp only [Act.put, List.setIfInBounds_toArray, List.set_cons_zero, List.set_cons_succ]
          refine wpAnyE_take (i := 5) (v := ?_) (List.getElem?_toArray.trans rfl) (by kernel_rfl) (by kernel_rfl) (by kernel_rfl) (by kernel_rfl) (fun _ _ _ h => h) (Or.inl ⟨by rfl, ?_⟩) hInv.out (by assumption) (fun hInv' => ?_)
          rotate_left
          · intro w hSw; (try dsimp only at hSw); go_simp; (try with_reducible rfl)
          replace hInv := hide hInv'; clear hInv'; try simp only [Act.put, List.setIfInBounds_toArray, List.set_cons_zero, List.set_cons_succ]
          refine wpAnyE_take (i := 6) (v := ?_) (List.getElem?_toArray.trans rfl) (by kernel_rfl) (by kernel_rfl) (by kernel_rfl) (by kernel_rfl) (fun _ _ _ h => h) (Or.inl ⟨by rfl, ?_⟩) hInv.out (by assumption) (fun hInv' => ?_)
          rotate_left
          · intro w hSw; (try dsimp only at hSw); go_simp; (try with_reducible rfl)
          replace hInv := hide hInv'; clear hInv'; try simp only [Act.put, List.setIfInBounds_toArray, List.set_cons_zero, List.set_cons_succ]
          refine wpAnyE_take (i := 7) (v := ?_) (List.getElem?_toArray.trans rfl) (by kernel_rfl) (by kernel_rfl) (by kernel_rfl) (by kernel_rfl) (fun _ _ _ h => h) (Or.inl ⟨by rfl, ?_⟩) hInv.out (by assumption) (fun hInv' => ?_)
          rotate_left
          · intro w hSw; (try dsimp only at hSw); go_simp; (try with_reducible rfl)
          replace hInv := hide hInv'; clear hInv'; try simp only [Act.put, List.setIfInBounds_toArray, List.set_cons_zero, List.set_cons_succ]
          refine wpAnyE_take (i := 8) (v := ?_) (List.getElem?_toArray.trans rfl) (by kernel_rfl) (by kernel_rfl) (by kernel_rfl) (by kernel_rfl) (fun _ _ _ h => h) (Or.inl ⟨by rfl, ?_⟩) hInv.out (by assumption) (fun hInv' => ?_)
          rotate_left
          · intro w hSw; (try dsimp only at hSw); go_simp; (try with_reducible rfl)
          replace hInv := hide hInv'; clear hInv'; try simp only [Act.put, List.setIfInBounds_toArray, List.set_cons_zero, List.set_cons_succ]
          refine wpAnyE_take (i := 9) (v := ?_) (List.getElem?_toArray.trans rfl) (by kernel_rfl) (by kernel_rfl) (by kernel_rfl) (by kernel_rfl) (fun _ _ _ h => h) (Or.inl ⟨by rfl, ?_⟩) hInv.out (by assumption) (fun hInv' => ?_)
          rotate_left
          · intro w hSw; (try dsimp only at hSw); go_simp; (try with_reducible rfl)
          replace hInv := hide hInv'; clear hInv'; try simp only [Act.put, List.setIfInBounds_toArray, List.set_cons_zero, List.set_cons_succ]
          refine wpAnyE_take (i := 10) (v := ?_) (List.getElem?_toArray.trans rfl) (by kernel_rfl) (by kernel_rfl) (by kernel_rfl) (by kernel_rfl) (fun _ _ _ h => h) (Or.inl ⟨by rfl, ?_⟩) hInv.out (by assumption) (fun hInv' => ?_)
          rotate_left
          · intro w hSw; (try dsimp only at hSw); go_simp; (try with_reducible rfl)
          replace hInv := hide hInv'; clear hInv'; try simp only [Act.put, List.setIfInBounds_toArray, List.set_cons_zero, List.set_cons_succ]
          refine wpAnyE_take (i := 11) (v := ?_) (List.getElem?_toArray.trans rfl) (by kernel_rfl) (by kernel_rfl) (by kernel_rfl) (by kernel_rfl) (fun _ _ _ h => h) (Or.inl ⟨by rfl, ?_⟩) hInv.out (by assumption) (fun hInv' => ?_)
          rotate_left
          · intro w hSw; (try dsimp only at hSw); go_simp; (try with_reducible rfl)
          replace hInv := hide hInv'; clear hInv'; try simp only [Act.put, List.setIfInBounds_toArray, List.set_cons_zero, List.set_cons_succ]
          refine wpAnyE_take (i := 12) (v := ?_) (List.getElem?_toArray.trans rfl) (by kernel_rfl) (by kernel_rfl) (by kernel_rfl) (by kernel_rfl) (fun _ _ _ h => h) (Or.inl ⟨by rfl, ?_⟩) hInv.out (by assumption) (fun hInv' => ?_)
          rotate_left
          · intro w hSw; (try dsimp only at hSw); go_simp; (try with_reducible rfl)
          replace hInv := hide hInv'; clear hInv'; try simp only [Act.put, List.setIfInBounds_toArray, List.set_cons_zero, List.set_cons_succ]
          refine wpAnyE_take (i := 13) (v := ?_) (List.getElem?_toArray.trans rfl) (by kernel_rfl) (by kernel_rfl) (by kernel_rfl) (by kernel_rfl) (fun _ _ _ h => h) (Or.inl ⟨by rfl, ?_⟩) hInv.out (by assumption) (fun hInv' => ?_)
          rotate_left
          · intro w hSw; (try dsimp only at hSw); go_simp; (try with_reducible rfl)
          replace hInv := hide hInv'; clear hInv'; try simp only [Act.put, List.setIfInBounds_toArray, List.set_cons_zero, List.set_cons_succ]
          refine wpAnyE_take (i := 14) (v := ?_) (List.getElem?_toArray.trans rfl) (by kernel_rfl) (by kernel_rfl) (by kernel_rfl) (by kernel_rfl) (fun _ _ _ h => h) (Or.inl ⟨by rfl, ?_⟩) hInv.out (by assumption) (fun hInv' => ?_)
          rotate_left
          · intro w hSw; (try dsimp only at hSw); go_simp; (try with_reducible rfl)
          replace hInv := hide hInv'; clear hInv'; try simp only [Act.put, List.setIfInBounds_toArray, List.set_cons_zero, List.set_cons_succ]
          refine wpAnyE_take (i := 15) (v := ?_) (List.getElem?_toArray.trans rfl) (by kernel_rfl) (by kernel_rfl) (by kernel_rfl) (by kernel_rfl) (fun _ _ _ h => h) (Or.inl ⟨by rfl, ?_⟩) hInv.out (by assumption) (fun hInv' => ?_)
          rotate_left
          · intro w hSw; (try dsimp only at hSw); go_simp; (try with_reducible rfl)
          replace hInv := hide hInv'; clear hInv'; try simp only [Act.put, List.setIfInBounds_toArray, List.set_cons_zero, List.set_cons_succ]
          refine wpAnyE_one (i := 16) (List.getElem?_toArray.trans rfl) (by kernel_rfl) (fun K hK => ?_) hInv.out
          (go_simp; go_at_call 115; refine (hJ.out _ (hwB.out _ (up_drew (Below.refl _ _)))).mono ?_; rintro e w5 ⟨jb, rfl, hcn, hb5⟩)
          have hHeld := (key.out w5 ((up_drew (Below.refl (wr.heap.size + 1) (wr.alloc (.cells #[.int .i64 ec, .int .i64 (i : Int)] 88)))).trans (hb5.mono (by simp))))
          refine hK.out _ _ (fun _ => hHeld) (fun hInv' => ?_)
          clear hK K; replace hInv := hide (hInv' (by decide)); clear hInv'; try simp only [Act.put, List.setIfInBounds_toArray, List.set_cons_zero, List.set_cons_succ]
          refine wpAnyE_one (i := 17) (List.getElem?_toArray.trans rfl) (by kernel_rfl) (fun K hK => ?_) hInv.out
          (try dsimp only at hHeld); go_simp
          refine hK.out _ _ (fun h => absurd rfl h) (fun _ => ?_)
          clear hK K hInv; try simp only [Act.put, List.setIfInBounds_toArray, List.set_cons_zero, List.set_cons_succ]
          refine wpAnyE_done (by kernel_rfl) ?_ _
          next =>
            have hB5 : Below (wr.heap.size + 1) (wr.alloc (.cells #[.int .i64 ec, .int .i64 (i : Int)] 88)) w5 := (up_drew (Below.refl (wr.heap.size + 1) (wr.alloc (.cells #[.int .i64 ec, .int .i64 (i : Int)] 88)))).trans (hb5.mono (by simp))
            have hbr5 := hide (show Below wr.heap.size wr w5 from unalloc (hB5.mono (by omega)) (Nat.le_refl _))
            have y1 : w5.cell? ⟨wr.heap.size, 1, none⟩ = some (.int .i64 (i : Int)) := cu_below hB5 (by simp [go_sem]) (by simp)
            have hz5 : wr.heap.size + 1 ≤ w5.heap.size := by have := hB5.size; simpa using this
            have hown5 := hide (hown.out.stays hbr5.out)
            have hK5 := hide (hK.out.trans (hbr5.out.mono hzr))
            have hT1 := hide (hTt.out jb hcn)
            have hT2 := hide (hTf.out jb hcn)
            clear hJ x0 x1 s0 s1 r0 r1 q0 q1 hb5 hB5 hcn hTt hTf key hwB
            cases jb with
            | true =>
              have hT5 := hide (hT2.out rfl)
              clear hT1 hT2
              go_wp2
              go_roundw
              case rel => exact ⟨k + 1, p, ao, co, xs, by omega, by omega, by go_num, rfl, hxl, hown5, hT5, hK5⟩
              case measure => simp [intOf]; omega
            | false =>
              have hT5 := hide (hT1.out rfl)
              clear hT1 hT2
              go_wp2_with (at_builtin; (refine wpList_push (e := 3) (enc := encI) (xs := xs) (v := .slice ao (p) co) (base := w3.heap.size) rfl (.tmp 50) (.tmp 53) 22 rfl _ 8 Try.underlying22 info_int rfl ?d11 lenI oneI (p) ?d21 ?d31 ?d41 ⟨w5.heap.size, 0, none⟩ 1 (i : Int) ?d51 ?d61 ?d71 ?d81 ?d91 ?_); (case d11 => omega); (case d21 => exact hxl.out); (case d31 => rfl); (case d41 => exact (hown5.out.alloc _)); (case d51 => rfl); (case d61 => exact newI _ _ _ _ rfl); (case d71 => omega); (case d81 => unfold maxLen; omega); (case d91 => first | omega | (simp; done) | (simp; omega)); intro g1 c1 w1 own1 hb1 hgr1 hg1 hgl1; have hB1 := hide (unalloc hb1 (by omega)); replace own1 := hide own1; replace hb1 := hide hb1; replace hgr1 := hide hgr1)
              go_roundw
              case rel => exact ⟨k + 1, p + 1, _, _, xs ++ [(i : Int)], by omega, by omega, by go_num, rfl, hide (by simp [hxl.out]), own1, hT5, hide (hK5.out.trans hB1.out)⟩
              case measure => simp [intOf]; omega
        · obtain rfl : k = es.length := by omega
          have hfin := hide (hbw3.out.trans (hK.out.mono (by omega)))
          have hown9 := hide (hown.out.base_le (base' := w.heap.size) (by omega))
          go_wp2
          go_ret
          exact ⟨_, xs, rfl, hT.out, hown9.out, hfin.out⟩
end Go.Proofs.Ytdpbkhempgghaaa
