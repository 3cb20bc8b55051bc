/-
  What span's tree does with span.Neck's step: it finds the neck. Conditions: a right net, two places in bounds.
-/
import Derived.Test.YtgkiipmeigfjnaaNeck1
import Derived.Test.YtgkiipmeigfjnaaHSort
import Derived.Deep.RegionLaw
import Derived.Test.YtgkiipmeigfjnaaHeldEnd
namespace Go.Proofs.Ytgkiipmeigfjnaa
open Go.RowKit
set_option linter.unusedSimpArgs false
set_option linter.unusedVariables false
/-- what the tree leaves: the neck in its two cells -/
def TreeBack (es : List Ed) (a b bn be : Nat) (w : World) (e : Ending) (w' : World) : Prop := ∃ v best x, e = .returned v ∧ NeckAns (JN es a b) es best x ∧ w'.cell? ⟨bn, 0, none⟩ = some (.int .i64 best) ∧ w'.cell? ⟨be, 0, none⟩ = some (.int .i64 x) ∧ Keep (fun k => k = bn ∨ k = be) w w'
theorem joined_equal {f : Nat → Nat} (hf : Forest f) {x y : Nat} (h : root f x = root f y) (j : Nat) : root (joined f x y) j = root f j := by
  rw [joined_root hf, h]
  split <;> omega
theorem Grp.fresh {w w' : World} {b n : Nat} {v : Value} {f : Nat → Nat} (h : Grp w b v n f) (hb : Below w.heap.size w w') : Grp w' b v n f := h.keep (Keep.new hb : Keep (fun _ => False) w w') (fun x => x) (fun _ _ x => x)
set_option maxRecDepth 100000 in
set_option maxHeartbeats 4000000 in
theorem tree_neck (n a b : Nat) (an : Option Addr) (cap : Nat) (es : List Ed) (ba bb bg bn be : Nat) (w : World) (B : Nat) (hB : B ≤ w.heap.size) (hE : Row encE 3 w B an es) (hn1 : 1 ≤ n) (hn : n ≤ 64) (hl : es.length ≤ 600) (hes : Right n es) (ha : a < n) (hb : b < n) (hab : a ≠ b)
    (ca : w.cell? ⟨ba, 0, none⟩ = some (.int .i64 (a : Int))) (cb : w.cell? ⟨bb, 0, none⟩ = some (.int .i64 (b : Int))) (cg : w.cell? ⟨bg, 1, none⟩ = some (.slice an es.length cap)) (cn : w.cell? ⟨bn, 0, none⟩ = some (.int .i64 0)) (ce : w.cell? ⟨be, 0, none⟩ = some (.int .i64 5)) (fn : w.frozen? ⟨bn, 0, none⟩ = false) (fe : w.frozen? ⟨be, 0, none⟩ = false)
    (hne : bn ≠ be) :
    Calls Try.prog 62 #[.agg #[.int .i64 (n : Int), .slice an es.length cap], .func (.func 63) #[] #[.pointer (some ⟨ba, 0, none⟩), .pointer (some ⟨bb, 0, none⟩), .pointer (some ⟨bg, 0, none⟩), .pointer (some ⟨bn, 0, none⟩), .pointer (some ⟨be, 0, none⟩)]] w (TreeBack es a b bn be w) := by
  replace hE := hide hE
  replace hes := hide hes
  have zba := cell_lt ca
  have zbb := cell_lt cb
  have zbg := cell_lt cg
  have zbn := cell_lt cn
  have zbe := cell_lt ce
  simp only at zba zbb zbg zbn zbe
  go_enter Try.func62, Try.ntmps62
  go_wp2
  obtain ⟨w0, h0⟩ : ∃ w0, w0 = w.alloc (.cells #[.int .i64 (n : Int), .slice an es.length cap] 24) := ⟨_, rfl⟩
  have hB0 := hide (show Below w.heap.size w w0 by rw [h0]; exact (Below.refl _ _).alloc (Nat.le_refl _) _)
  have c0 : w0.cell? ⟨w.heap.size, 0, none⟩ = some (.int .i64 (n : Int)) := by rw [h0]; simp [go_sem]
  have c1 : w0.cell? ⟨w.heap.size, 1, none⟩ = some (.slice an es.length cap) := by rw [h0]; simp [go_sem]
  have hz0 : w.heap.size < w0.heap.size := cell_lt c0
  simp only [← h0]
  replace h0 := hide h0
  go_loopw [5, 6, 7, 15] (fun s5 _ _ i wr => ∃ (k : Nat) (av : Option Addr) (cv : Nat), k ≤ es.length ∧ i = .int .i64 k ∧ s5 = .slice av k cv ∧ Hid (Own encP 2 142 wr w0.heap.size (.slice av k cv) (popsK es k)) ∧ Hid (Below w0.heap.size w0 wr)) (fun _ _ _ i _ => es.length - (intOf i).toNat)
  case atStart => exact ⟨0, none, 0, Nat.zero_le _, rfl, rfl, hide (Own.nil _ _), hide (Below.refl _ _)⟩
  case round =>
    obtain ⟨k, av, cv, hk, rfl, rfl, own, hbr⟩ := hrel
    have hzr := hbr.out.size
    by_cases hlt : k < es.length
    · have hbw := hide (hB0.out.trans (hbr.out.mono (by omega)))
      obtain ⟨eb, eo, rfl, heb, e0, e1, e2⟩ := hE.out.ed k hlt
      have e0 := cu_below hbw.out e0 (by simp; omega)
      have e1 := cu_below hbw.out e1 (by simp; omega)
      have e2 := cu_below hbw.out e2 (by simp; omega)
      have hbl := cell_lt e0
      obtain ⟨ed, hed⟩ : ∃ ed, ed = es[k] := ⟨_, rfl⟩
      have hpk := hide (show popsK es (k + 1) = popsK es k ++ [⟨ed.c, (k : Int)⟩] by rw [popsK_succ, edAt_c hlt, hed])
      rw [← hed] at e0 e1 e2
      replace hed := hide hed
      have ik : (0 : Int) ≤ (k : Int) ∧ (k : Int) < (es.length : Int) := by omega
      go_wp2_with (at_builtin; (refine wpList_push (e := 142) (enc := encP) (xs := popsK es k) (v := .slice av (k) cv) (base := w0.heap.size) rfl (.tmp 20) (.tmp 25) 140 rfl _ 16 Try.underlying140 info_pop rfl ?d11 lenP oneP (k) ?d21 ?d31 ?d41 ⟨wr.heap.size + 1, 0, none⟩ 1 (⟨ed.c, (k : Int)⟩ : P2) ?d51 ?d61 ?d71 ?d81 ?d91 ?_); (case d11 => omega); (case d21 => exact popsK_len _ _); (case d31 => rfl); (case d41 => exact (own.out.alloc _).alloc _); (case d51 => rfl); (case d61 => exact newP _ _ _ _ (by simp)); (case d71 => omega); (case d81 => unfold maxLen; omega); (case d91 => first | omega | (simp; done) | (simp; omega)); intro g1 c1 w1 own1 hb1 hgr1 hg1 hgl1; have hB1 := hide (unalloc (unalloc hb1 (by simp; omega)) (by omega)); replace own1 := hide own1; replace hb1 := hide hb1; replace hgr1 := hide hgr1)
      go_roundw
      case rel => exact ⟨k + 1, _, _, by omega, by go_num, rfl, hide (by rw [hpk.out]; exact own1.out), hide (hbr.out.trans hB1.out)⟩
      case measure => simp [intOf]; omega
    · obtain rfl : k = es.length := by omega
      have k0 := cu_below hbr.out c0 (by simpa using hz0)
      have k1 := cu_below hbr.out c1 (by simpa using hz0)
      have hbw := hide (hB0.out.trans (hbr.out.mono (by omega)))
      have hzw : w.heap.size < wr.heap.size := by omega
      obtain ⟨a', c', hv', hrp, _⟩ := own.out.row lenP
      injection hv' with g1 g2 g3
      subst g1 g3
      clear g2
      replace hrp := hide hrp
      clear c0 c1
      go_wp2_with fail
      refine (unew_any n _ hn).mono ?_
      rintro e w2 ⟨vU, ub, rfl, hub, hG, hb2⟩
      have hz2 := hb2.size
      have k2 := cu_below hb2 k0 (by simp; omega)
      have k3 := cu_below hb2 k1 (by simp; omega)
      replace hG := hide hG
      have hbw2 := hide (hbw.out.trans (hb2.mono (by omega)))
      have hrp2 := hide (hrp.out.below hb2 (Nat.le_refl _))
      clear hb2 k0 k1
      go_wp2_with fail
      refine (sort_any av cv es.length (popsK es es.length) (popsK_len _ _) w2 wr.heap.size hz2 hrp2.out (by omega)).mono ?_
      rintro e w3 ⟨vs, rfl, ownS, hb3⟩
      change Own encP 2 142 w3 w2.heap.size vs (orderOf es) at ownS
      obtain ⟨sa, cs, rfl⟩ := ownS.shape (n := es.length) (orderOf_len es)
      obtain ⟨gU, cU, rfl, hgU⟩ := hG.out.slice (by omega)
      have hgU2 := (hG.out.2.2.block_lt gU rfl).2
      have hz3 := hb3.size
      have k4 := cu_below hb3 k2 (by simp; omega)
      have k5 := cu_below hb3 k3 (by simp; omega)
      have hG3 := hide (hG.out.fresh hb3)
      have hbw3 := hide (hbw2.out.trans (hb3.mono (by omega)))
      have hblkS := hide ownS.block_lt
      have hrS : Row encP 2 w3 w3.heap.size sa (orderOf es) := by
        obtain ⟨a', c', hv', hr', _⟩ := ownS.row lenP
        injection hv' with g1 g2 g3
        subst g1
        exact hr'
      replace hrS := hide hrS
      have hE3 := hide (hE.out.below hbw3.out hB)
      have ca := cu_below hbw3.out ca (by simpa using zba)
      have cb := cu_below hbw3.out cb (by simpa using zbb)
      have cg := cu_below hbw3.out cg (by simpa using zbg)
      have cn := cu_below hbw3.out cn (by simpa using zbn)
      have ce := cu_below hbw3.out ce (by simpa using zbe)
      have fn := fu_below hbw3.out fn (by simpa using zbn)
      have fe := fu_below hbw3.out fe (by simpa using zbe)
      have hcl := hide (⟨ca, cb, cg, cn, ce, fn, fe⟩ : _ ∧ _ ∧ _ ∧ _ ∧ _ ∧ _ ∧ _)
      have hC0 := hide (show ¬ Conn (joinedK es 0) a b from by simpa [joinedK] using conn_nil hab)
      have hD0 := hide (show Done (joinedK es 0) (joinedK es 0) (fun i => i) from by simpa [joinedK] using done_start [])
      clear hb3 k2 k3 ownS ca cb cg cn ce fn fe hG hrp hrp2 hbr own
      obtain ⟨wo, rfl⟩ : ∃ wo : World, wo = wr := ⟨_, rfl⟩
      go_wp2
      go_loopw [9, 11, 34] (fun s9 _ i wr => ∃ (k p : Nat) (av : Option Addr) (cv : Nat) (xs : List Int) (f : Nat → Nat), k ≤ es.length ∧ p ≤ k ∧ i = .int .i64 k ∧ s9 = .slice av p cv ∧ Hid (xs.length = p) ∧ Hid (Own encI 1 3 wr w3.heap.size (.slice av p cv) xs) ∧ Hid (Grp wr ub (.slice (some ⟨gU, 0, none⟩) n cU) n f) ∧ Hid (Done (joinedK es k) (joinedK es k) f) ∧ Hid (¬ Conn (joinedK es k) a b) ∧ Hid (Keep (fun j => j = gU) w3 wr)) (fun _ _ i _ => es.length - (intOf i).toNat)
      case atStart => exact ⟨0, 0, none, 0, [], fun i => i, Nat.zero_le _, Nat.le_refl _, rfl, rfl, hide rfl, hide (Own.nil _ _), hG3, hD0, hC0, hide (Keep.refl _ _)⟩
      case round =>
        clear hG3 hC0 hD0
        obtain ⟨k, p, ao, co, xs, f, hk, hp, rfl, rfl, hxl, hown, hG, hD, hC, hK⟩ := hrel
        have hzr := hK.out.size
        have x0 := hK.out.cu k4 (by simp; omega)
        have x1 := hK.out.cu k5 (by simp; omega)
        by_cases hlt : k < es.length
        · have hko : k < (orderOf es).length := by rw [orderOf_len]; exact hlt
          obtain ⟨i, hi, hxe, hpa⟩ := orderOf_mem (List.getElem_mem hko)
          obtain ⟨b1, o1, rfl, hb1, s0, s1⟩ := hrS.out.p2 k hko
          have hb1U : b1 ≠ gU := by have := (hblkS.out b1 rfl).1; omega
          rw [hxe] at s0 s1
          have s0 := hK.out.cu s0 (by simpa using hb1U)
          have s1 := hK.out.cu s1 (by simpa using hb1U)
          simp only at s0 s1
          have hb1r := cell_lt s0
          obtain ⟨u, v, e1, e2, e3, e4, e5, e6, -⟩ := right_edge hes.out i hi
          have hp2 : pairAt es (orderOf es)[k] = (u, v) := by rw [hpa, e1, e2]; simp
          have hjk := joinedK_succ es k hko
          rw [hp2] at hjk
          obtain ⟨eb, eo, rfl, heb, q0, q1, q2⟩ := hE3.out.ed i hi
          have hebU : eb ≠ gU := by omega
          rw [e1] at q0
          rw [e2] at q1
          obtain ⟨ec, hec⟩ : ∃ ec, ec = es[i].c := ⟨_, rfl⟩
          rw [← hec] at q2 s0
          have hka : (orderOf es)[k].a = ec := by rw [hxe, hec]
          have r0 := hK.out.cu q0 (by simpa using hebU)
          have r1 := hK.out.cu q1 (by simpa using hebU)
          have hebr := cell_lt r0
          have hDn := hide (done_snoc hD.out (u, v))
          rw [← hjk] at hDn
          have hJ := hide (fun w' (hb : Below wr.heap.size wr w') => join_any ub n (.slice (some ⟨gU, 0, none⟩) n cU) f u v w' hD.out.1 (hG.out.fresh hb) e3 e4 hn)
          obtain ⟨jb, hjb⟩ : ∃ jb, jb = decide (root f u ≠ root f v) := ⟨_, rfl⟩
          rw [← hjb] at hJ
          have hjf := hide (show jb = false → ∀ j, root (joined f u v) j = root f j from fun h j => joined_equal hD.out.1 (by rw [hjb] at h; simpa using h) j)
          have ik : (0 : Int) ≤ (k : Int) ∧ (k : Int) < (es.length : Int) := by omega
          have ii : (0 : Int) ≤ (i : Int) ∧ (i : Int) < (es.length : Int) := by omega
          replace hjb := hide hjb
          replace hec := hide hec
          replace hka := hide hka
          replace hxe := hide hxe
          replace hpa := hide hpa
          replace hp2 := hide hp2
          replace e1 := hide e1
          replace e2 := hide e2
          replace hjk := hide hjk
          clear e5 e6
          have hwB : ∀ w', Below wr.heap.size (wr.alloc (.cells #[.int .i64 ec, .int .i64 (i : Int)] 142)) w' → Below wr.heap.size wr w' := fun w' h => unalloc h (Nat.le_refl _)
          replace hwB := hide hwB
          have hzx : w.heap.size < wr.heap.size := by omega
          have key := hide (show ∀ w', Below (wr.heap.size + 1) (wr.alloc (.cells #[.int .i64 ec, .int .i64 (i : Int)] 142)) w' → (Below wr.heap.size wr w' ∧ w'.cell? ⟨wr.heap.size, 1, none⟩ = some (.int .i64 (i : Int)) ∧ w'.cell? ⟨w.heap.size, 1, none⟩ = some (.slice (some ⟨eb, eo, none⟩) es.length cap) ∧ w'.cell? ⟨eb, eo + i * 3, none⟩ = some (.int .i64 (u : Int)) ∧ w'.cell? ⟨eb, eo + i * 3 + 1, none⟩ = some (.int .i64 (v : Int))) from fun w' h =>
            ⟨unalloc (h.mono (by omega)) (Nat.le_refl _), cu_below h (by simp [go_sem]) (by simp), cu_below h (cu_alloc x1) (by simp; omega), cu_below h (cu_alloc r0) (by simp; omega), cu_below h (cu_alloc r1) (by simp; omega)⟩)
          have hb1x : b1 < wr.heap.size := hb1r
          have hebx : eb < wr.heap.size := hebr
          go_wp2
          refine wp_region_end (S := (fun w' => Below wr.heap.size wr w' ∧ w'.cell? ⟨wr.heap.size, 1, none⟩ = some (.int .i64 (i : Int)) ∧ w'.cell? ⟨w.heap.size, 1, none⟩ = some (.slice (some ⟨eb, eo, none⟩) es.length cap) ∧ w'.cell? ⟨eb, eo + i * 3, none⟩ = some (.int .i64 (u : Int)) ∧ w'.cell? ⟨eb, eo + i * 3 + 1, none⟩ = some (.int .i64 (v : Int)))) (t := 15) (by kernel_rfl) ?_ (fun hHeld hInv => ?_)
          · exact key.out _ (up_drew (Below.refl _ _))
          replace hInv := hide hInv
          refine wpAnyE_take (i := 0) (v := ?_) (List.getElem?_toArray.trans rfl) (by kernel_rfl) (by kernel_rfl) (by kernel_rfl) (by kernel_rfl) (fun _ _ _ h => h) (Or.inl ⟨by rfl, ?_⟩) hInv.out (by assumption) (fun hInv' => ?_)
          rotate_left
          · intro w hSw; (try dsimp only at hSw); go_simp; (try with_reducible rfl)
          replace hInv := hide hInv'; clear hInv'; try simp only [Act.put, List.setIfInBounds_toArray, List.set_cons_zero, List.set_cons_succ]
          refine wpAnyE_take (i := 1) (v := ?_) (List.getElem?_toArray.trans rfl) (by kernel_rfl) (by kernel_rfl) (by kernel_rfl) (by kernel_rfl) (fun _ _ _ h => h) (Or.inl ⟨by rfl, ?_⟩) hInv.out (by assumption) (fun hInv' => ?_)
          rotate_left
          · intro w hSw; (try dsimp only at hSw); go_simp; (try with_reducible rfl)
          replace hInv := hide hInv'; clear hInv'; try simp only [Act.put, List.setIfInBounds_toArray, List.set_cons_zero, List.set_cons_succ]
          refine wpAnyE_take (i := 2) (v := ?_) (List.getElem?_toArray.trans rfl) (by kernel_rfl) (by kernel_rfl) (by kernel_rfl) (by kernel_rfl) (fun _ _ _ h => h) (Or.inl ⟨by rfl, ?_⟩) hInv.out (by assumption) (fun hInv' => ?_)
          rotate_left
          · intro w hSw; (try dsimp only at hSw); go_simp; (try with_reducible rfl)
          replace hInv := hide hInv'; clear hInv'; try simp only [Act.put, List.setIfInBounds_toArray, List.set_cons_zero, List.set_cons_succ]
          refine wpAnyE_take (i := 3) (v := ?_) (List.getElem?_toArray.trans rfl) (by kernel_rfl) (by kernel_rfl) (by kernel_rfl) (by kernel_rfl) (fun _ _ _ h => h) (Or.inl ⟨by rfl, ?_⟩) hInv.out (by assumption) (fun hInv' => ?_)
          rotate_left
          · intro w hSw; (try dsimp only at hSw); go_simp; (try with_reducible rfl)
          replace hInv := hide hInv'; clear hInv'; try simp only [Act.put, List.setIfInBounds_toArray, List.set_cons_zero, List.set_cons_succ]
          refine wpAnyE_take (i := 4) (v := ?_) (List.getElem?_toArray.trans rfl) (by kernel_rfl) (by kernel_rfl) (by kernel_rfl) (by kernel_rfl) (fun _ _ _ h => h) (Or.inl ⟨by rfl, ?_⟩) hInv.out (by assumption) (fun hInv' => ?_)
          rotate_left
          · intro w hSw; (try dsimp only at hSw); go_simp; (try with_reducible rfl)
          replace hInv := hide hInv'; clear hInv'; try simp only [Act.put, List.setIfInBounds_toArray, List.set_cons_zero, List.set_cons_succ]
          refine wpAnyE_take (i := 5) (v := ?_) (List.getElem?_toArray.trans rfl) (by kernel_rfl) (by kernel_rfl) (by kernel_rfl) (by kernel_rfl) (fun _ _ _ h => h) (Or.inl ⟨by rfl, ?_⟩) hInv.out (by assumption) (fun hInv' => ?_)
          rotate_left
          · intro w hSw; (try dsimp only at hSw); go_simp; (try with_reducible rfl)
          replace hInv := hide hInv'; clear hInv'; try simp only [Act.put, List.setIfInBounds_toArray, List.set_cons_zero, List.set_cons_succ]
          refine wpAnyE_take (i := 6) (v := ?_) (List.getElem?_toArray.trans rfl) (by kernel_rfl) (by kernel_rfl) (by kernel_rfl) (by kernel_rfl) (fun _ _ _ h => h) (Or.inl ⟨by rfl, ?_⟩) hInv.out (by assumption) (fun hInv' => ?_)
          rotate_left
          · intro w hSw; (try dsimp only at hSw); go_simp; (try with_reducible rfl)
          replace hInv := hide hInv'; clear hInv'; try simp only [Act.put, List.setIfInBounds_toArray, List.set_cons_zero, List.set_cons_succ]
          refine wpAnyE_take (i := 7) (v := ?_) (List.getElem?_toArray.trans rfl) (by kernel_rfl) (by kernel_rfl) (by kernel_rfl) (by kernel_rfl) (fun _ _ _ h => h) (Or.inl ⟨by rfl, ?_⟩) hInv.out (by assumption) (fun hInv' => ?_)
          rotate_left
          · intro w hSw; (try dsimp only at hSw); go_simp; (try with_reducible rfl)
          replace hInv := hide hInv'; clear hInv'; try simp only [Act.put, List.setIfInBounds_toArray, List.set_cons_zero, List.set_cons_succ]
          refine wpAnyE_take (i := 8) (v := ?_) (List.getElem?_toArray.trans rfl) (by kernel_rfl) (by kernel_rfl) (by kernel_rfl) (by kernel_rfl) (fun _ _ _ h => h) (Or.inl ⟨by rfl, ?_⟩) hInv.out (by assumption) (fun hInv' => ?_)
          rotate_left
          · intro w hSw; (try dsimp only at hSw); go_simp; (try with_reducible rfl)
          replace hInv := hide hInv'; clear hInv'; try simp only [Act.put, List.setIfInBounds_toArray, List.set_cons_zero, List.set_cons_succ]
          refine wpAnyE_take (i := 9) (v := ?_) (List.getElem?_toArray.trans rfl) (by kernel_rfl) (by kernel_rfl) (by kernel_rfl) (by kernel_rfl) (fun _ _ _ h => h) (Or.inl ⟨by rfl, ?_⟩) hInv.out (by assumption) (fun hInv' => ?_)
          rotate_left
          · intro w hSw; (try dsimp only at hSw); go_simp; (try with_reducible rfl)
          replace hInv := hide hInv'; clear hInv'; try simp only [Act.put, List.setIfInBounds_toArray, List.set_cons_zero, List.set_cons_succ]
          refine wpAnyE_take (i := 10) (v := ?_) (List.getElem?_toArray.trans rfl) (by kernel_rfl) (by kernel_rfl) (by kernel_rfl) (by kernel_rfl) (fun _ _ _ h => h) (Or.inl ⟨by rfl, ?_⟩) hInv.out (by assumption) (fun hInv' => ?_)
          rotate_left
          · intro w hSw; (try dsimp only at hSw); go_simp; (try with_reducible rfl)
          replace hInv := hide hInv'; clear hInv'; try simp only [Act.put, List.setIfInBounds_toArray, List.set_cons_zero, List.set_cons_succ]
          refine wpAnyE_take (i := 11) (v := ?_) (List.getElem?_toArray.trans rfl) (by kernel_rfl) (by kernel_rfl) (by kernel_rfl) (by kernel_rfl) (fun _ _ _ h => h) (Or.inl ⟨by rfl, ?_⟩) hInv.out (by assumption) (fun hInv' => ?_)
          rotate_left
          · intro w hSw; (try dsimp only at hSw); go_simp; (try with_reducible rfl)
          replace hInv := hide hInv'; clear hInv'; try simp only [Act.put, List.setIfInBounds_toArray, List.set_cons_zero, List.set_cons_succ]
          refine wpAnyE_take (i := 12) (v := ?_) (List.getElem?_toArray.trans rfl) (by kernel_rfl) (by kernel_rfl) (by kernel_rfl) (by kernel_rfl) (fun _ _ _ h => h) (Or.inl ⟨by rfl, ?_⟩) hInv.out (by assumption) (fun hInv' => ?_)
          rotate_left
          · intro w hSw; (try dsimp only at hSw); go_simp; (try with_reducible rfl)
          replace hInv := hide hInv'; clear hInv'; try simp only [Act.put, List.setIfInBounds_toArray, List.set_cons_zero, List.set_cons_succ]
          refine wpAnyE_take (i := 13) (v := ?_) (List.getElem?_toArray.trans rfl) (by kernel_rfl) (by kernel_rfl) (by kernel_rfl) (by kernel_rfl) (fun _ _ _ h => h) (Or.inl ⟨by rfl, ?_⟩) hInv.out (by assumption) (fun hInv' => ?_)
          rotate_left
          · intro w hSw; (try dsimp only at hSw); go_simp; (try with_reducible rfl)
          replace hInv := hide hInv'; clear hInv'; try simp only [Act.put, List.setIfInBounds_toArray, List.set_cons_zero, List.set_cons_succ]
          refine wpAnyE_take (i := 14) (v := ?_) (List.getElem?_toArray.trans rfl) (by kernel_rfl) (by kernel_rfl) (by kernel_rfl) (by kernel_rfl) (fun _ _ _ h => h) (Or.inl ⟨by rfl, ?_⟩) hInv.out (by assumption) (fun hInv' => ?_)
          rotate_left
          · intro w hSw; (try dsimp only at hSw); go_simp; (try with_reducible rfl)
          replace hInv := hide hInv'; clear hInv'; try simp only [Act.put, List.setIfInBounds_toArray, List.set_cons_zero, List.set_cons_succ]
          refine wpAnyE_one (i := 15) (List.getElem?_toArray.trans rfl) (by kernel_rfl) (fun K hK => ?_) hInv.out
          (go_simp; go_at_call 130; refine (hJ.out _ (hwB.out _ (up_drew (Below.refl _ _)))).mono ?_; rintro e w5 ⟨rfl, f5, hf5, hr5, hG5, hK5⟩)
          refine hK.out _ _ (fun h => absurd rfl h) (fun _ => ?_)
          clear hK K hInv; try simp only [Act.put, List.setIfInBounds_toArray, List.set_cons_zero, List.set_cons_succ]
          refine wpAnyE_done (by kernel_rfl) ?_ _
          next =>
            have hKr := hide (show Keep (fun j => j = gU) wr w5 from by first | exact ((Keep.refl _ wr).alloc _).trans (hK5.mono (fun j _ h => (blk_slice.1 h).symm)) | exact ((Keep.refl _ wr).alloc _).drew.trans (hK5.mono (fun j _ h => (blk_slice.1 h).symm)))
            have hK6 := hide (hK.out.trans hKr.out)
            have hz5 : wr.heap.size + 1 ≤ w5.heap.size := by have := hK5.size; simpa using this
            have y1 : w5.cell? ⟨wr.heap.size, 1, none⟩ = some (.int .i64 (i : Int)) := hK5.cu (by simp [go_sem]) (by rw [blk_slice]; simp; omega)
            have hown5 := hide (hKr.out.own hown.out (fun j hj e => by have := (hown.out.block_lt j hj).1; omega))
            have hbl5 := hide hown.out.block_lt
            have hD5 := hide (done_same hDn.out hf5 hr5)
            replace hf5 := hide hf5
            replace hr5 := hide hr5
            replace hG5 := hide hG5
            clear hK5 hJ x0 x1 s0 s1 r0 r1 q0 q1
            cases jb with
            | false =>
              have hC5 := hide (show ¬ Conn (joinedK es (k + 1)) a b from by
                rw [← done_conn hD5.out, hr5.out, hr5.out, hjf.out rfl, hjf.out rfl, done_conn hD.out]
                exact hC.out)
              go_wp2
              go_roundw
              case rel => exact ⟨k + 1, p, ao, co, xs, f5, by omega, by omega, by go_num, rfl, hxl, hown5, hG5, hD5, hC5, hK6⟩
              case measure => simp [intOf]; omega
            | true =>
              obtain ⟨same, hsame⟩ : ∃ same, same = decide (root f5 a = root f5 b) := ⟨_, rfl⟩
              have hcon := hide (show same = true ↔ Conn (joinedK es (k + 1)) a b from by rw [hsame, decide_eq_true_eq, done_conn hD5.out])
              replace hsame := hide hsame
              go_wp2_with (at_builtin; (refine wpList_push (e := 3) (enc := encI) (xs := xs) (v := .slice ao (p) co) (base := w3.heap.size) rfl (.tmp 54) (.tmp 57) 34 rfl _ 8 Try.underlying34 info_int rfl ?d11 lenI oneI (p) ?d21 ?d31 ?d41 ⟨w5.heap.size, 0, none⟩ 1 (i : Int) ?d51 ?d61 ?d71 ?d81 ?d91 ?_); (case d11 => omega); (case d21 => exact hxl.out); (case d31 => rfl); (case d41 => exact (hown5.out.alloc _)); (case d51 => rfl); (case d61 => exact newI _ _ _ _ rfl); (case d71 => omega); (case d81 => unfold maxLen; omega); (case d91 => first | omega | (simp; done) | (simp; omega)); intro g1 c1 w1 own1 hb1 hgr1 hg1 hgl1; have hKp := ((Keep.refl (fun j => (Value.slice ao p co).ownBlock = some j) w5).alloc (.cells #[.int .i64 (i : Int)] 3)).grown hgr1 (fun j hj => .inl hj); have hG6 := hide (hG5.out.keep hKp (fun e => by have := (hbl5.out _ e).1; omega) (fun j hj e => by have := (hbl5.out _ e).1; simp [Value.ownBlock] at hj; omega)); have hK7 := hide (hK6.out.trans2 hKp (fun j hj => .inr (hbl5.out j hj).1)); have y2 := hKp.cu y1 (fun e => by have := (hbl5.out _ e).2; simp at this); replace own1 := hide own1; replace hb1 := hide hb1; replace hgr1 := hide hgr1; replace hKp := hide hKp)
              obtain ⟨ca, cb, cg, cn, ce, fn, fe⟩ := hcl.out
              refine (neck1_any i ub n (.slice (some ⟨gU, 0, none⟩) n cU) f5 ba bb bg bn be a b _ es.length cap ec _ hf5.out hG6.out ha hb hn (hK7.out.cu ca (by simp; omega)) (hK7.out.cu cb (by simp; omega)) (hK7.out.cu cg (by simp; omega)) (hK7.out.cu cn (by simp; omega)) (hK7.out.cu ce (by simp; omega)) ((hK7.out.frozen (cell_lt cn) (by simp; omega)).trans fn) ((hK7.out.frozen (cell_lt ce) (by simp; omega)).trans fe) hi eb eo rfl (hK7.out.cu q2 (by simpa using hebU)) (by rw [blk_slice]; omega) (by rw [blk_slice]; omega) (by rw [blk_slice]; omega) (by rw [blk_slice]; omega) (by rw [blk_slice]; omega) (by rw [blk_slice]; omega) hne (by omega) (by omega) same hsame.out).mono ?_
              rintro e w7 ⟨rfl, f7, hf7, hr7, hG7, hif⟩
              clear ca cb cg cn ce fn fe y2 y1
              cases same with
              | true =>
                rw [if_pos rfl] at hif
                obtain ⟨hK8, d1, d2⟩ := hif
                have hN := hide (neck_found hko hC.out (hcon.out.1 rfl))
                have hfin := hide (((Keep.new hbw3.out : Keep (fun j => j = bn ∨ j = be) w w3).trans2 hK7.out (fun j hj => .inr (by omega))).trans2 hK8 (fun j hj => by
                  rcases hj with hj | hj | hj
                  · right; rw [blk_slice] at hj; omega
                  · exact .inl (.inl hj)
                  · exact .inl (.inr hj)))
                replace hK8 := hide hK8
                go_wp2
                go_ret
                exact ⟨_, ec, 0, rfl, by rw [← hka.out]; exact hN.out, d1, d2, hfin.out⟩
              | false =>
                rw [if_neg (by simp)] at hif
                have hC5 := hide (show ¬ Conn (joinedK es (k + 1)) a b from fun h => by have := hcon.out.2 h; cases this)
                have own7 := hide (hif.own own1.out (fun j hj e => by rw [blk_slice] at e; have := (own1.out.block_lt j hj).1; omega))
                have hK9 := hide (hK7.out.trans (hif.mono (fun j _ h => (blk_slice.1 h).symm)))
                have hD7 := hide (done_same hD5.out hf7 hr7)
                replace hif := hide hif
                replace hG7 := hide hG7
                replace hf7 := hide hf7
                replace hr7 := hide hr7
                go_wp2
                go_roundw
                case rel => exact ⟨k + 1, p + 1, _, _, xs ++ [(i : Int)], f7, by omega, by omega, by go_num, rfl, hide (by simp [hxl.out]), own7, hG7, hD7, hC5, hK9⟩
                case measure => simp [intOf]; omega
        · obtain rfl : k = es.length := by omega
          obtain ⟨ca, cb, cg, cn, ce, fn, fe⟩ := hcl.out
          have d1 := hK.out.cu cn (by simp; omega)
          have d2 := hK.out.cu ce (by simp; omega)
          have hN := hide (neck_none hC.out)
          have hfin := hide ((Keep.new hbw3.out : Keep (fun j => j = bn ∨ j = be) w w3).trans2 hK.out (fun j hj => .inr (by omega)))
          go_wp2
          go_ret
          exact ⟨_, 0, 5, rfl, hN.out, d1, d2, hfin.out⟩
end Go.Proofs.Ytgkiipmeigfjnaa
