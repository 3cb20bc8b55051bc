/-
  What dijk.Way returns where there is a walk. Conditions: that the slices read.
-/
import Derived.Test.YtcehdpeeaogpiaaWay
import Derived.Test.YtcehdpeeaogpiaaPushAll
import Derived.BigQuiet
import Derived.Deep.QuietTactic
namespace Go.Proofs.Ytcehdpeeaogpiaa
open Go.RowKit
set_option linter.unusedSimpArgs false
set_option linter.unusedVariables false
/-- the place before, over the first edges -/
def pvK (n : Nat) (es : List Ed) (d : Nat → Int) (v k : Nat) : Nat := prevF n (nes (es.take k)) d v
theorem pvK_zero (n : Nat) (es : List Ed) (d : Nat → Int) (v : Nat) : pvK n es d v 0 = n := by simp [pvK, prevF, nes]
theorem pvK_all (n : Nat) (es : List Ed) (d : Nat → Int) (v : Nat) : pvK n es d v es.length = prevF n (nes es) d v := by simp [pvK]
theorem pvK_succ {n : Nat} {es : List Ed} {d : Nat → Int} {v k x y : Nat} {c : Int} (h : nes (es.take (k + 1)) = nes (es.take k) ++ [⟨x, y, c⟩]) : pvK n es d v (k + 1) = if y = v ∧ d x + c = d v then min (pvK n es d v k) x else pvK n es d v k := by
  unfold pvK prevF
  rw [h, List.foldl_append]
  rfl
/-- the walk: places back from the end, turned round -/
def pathL (b : Nat → Nat) (K : Nat) : List Int := (List.range (K + 1)).map fun i => ((b (K - i) : Nat) : Int)
theorem pathL_len (b : Nat → Nat) (K : Nat) : (pathL b K).length = K + 1 := by simp [pathL]
theorem pathL_take (b : Nat → Nat) (K k : Nat) (hk : k ≤ K) : (pathL b K).take (k + 1) = (pathL b K).take k ++ [((b (K - k) : Nat) : Int)] := by
  have hl : k < (pathL b K).length := by rw [pathL_len]; omega
  rw [List.take_succ_eq_append_getElem hl]
  simp [pathL]
/-- what holds while the walk is turned round: X the way's place, wo the world ahead of it -/
structure WzI (wo : World) (cost : Int) (v : Value) (xs : List Int) (wr : World) : Prop where
  o0 : wr.cell? ⟨wo.heap.size, 0, none⟩ = some v
  o1 : wr.cell? ⟨wo.heap.size, 1, none⟩ = some (.int .i64 cost)
  fo : wr.frozen? ⟨wo.heap.size, 0, none⟩ = false
  own : Own encI 1 3 wr (wo.heap.size + 1) v xs
  bel : Below wo.heap.size wo wr
section
variable {wo wr w' : World} {cost : Int} {v : Value} {xs : List Int}
theorem WzI.lt (h : WzI wo cost v xs wr) : wo.heap.size < wr.heap.size := cell_lt h.o0
theorem WzI.stays (h : WzI wo cost v xs wr) (b : Below wr.heap.size wr w') : WzI wo cost v xs w' :=
  ⟨cu_below b h.o0 (cell_lt h.o0), cu_below b h.o1 (cell_lt h.o1), fu_below b h.fo (cell_lt h.o0), h.own.stays b, h.bel.trans (b.mono h.bel.size)⟩
theorem WzI.ap (h : WzI wo cost v xs wr) : v.ownBlock ≠ some wo.heap.size := fun e => by
  have := (h.own.block_lt _ e).1
  omega
theorem WzI.grew (h : WzI wo cost v xs wr) {v' : Value} {xs' : List Int} (own' : Own encI 1 3 w' (wo.heap.size + 1) v' xs') (hg : wr.grownBy w' v.ownBlock) : WzI wo cost v' xs' (w'.setCell ⟨wo.heap.size, 0, none⟩ v') := by
  have hl := h.lt
  have hap := h.ap
  refine ⟨World.cell?_setCell_same _ _ _ (hg.cell h.o0 (fun e => hap e.symm)), cu_set_off (hg.cell h.o1 (fun e => hap e.symm)) (by omega), fu_set ((hg.frozen_far ⟨wo.heap.size, 0, none⟩ (by simp; omega) (fun e => hap e.symm)).trans h.fo), own'.elsewhere (fun e => by have := (own'.block_lt wo.heap.size e).1; omega) _, ?_⟩
  refine Below.setCell (h.bel.grown hg h.bel.size (fun k hk => by have := (h.own.block_lt k hk).1; omega)) ?_ _
  simp
end
set_option maxRecDepth 100000 in
set_option maxHeartbeats 4000000 in
theorem way_ok (n : Nat) (a : Option Addr) (cap : Nat) (es : List Ed) (f t : Nat) (w : World) (B : Nat) (hB : B ≤ w.heap.size) (hE : Row encE 3 w B a es) (h0 : lookErr (n : Int) es [(f : Int), (t : Int)] = 0) (K : Nat) (hK0 : backF n (nes es) (distF n es f) t K = f)
    (hK1 : ∀ j, j ≤ K → backF n (nes es) (distF n es f) t j < n ∧ distF n es f (backF n (nes es) (distF n es f) t j) < FAR) (hK2 : ∀ j, j < K → backF n (nes es) (distF n es f) t j ≠ f) (hK3 : (K : Int) ≤ distF n es f t) (hd0 : ∀ u, u < n → 0 ≤ distF n es f u ∧ distF n es f u ≤ FAR) :
    Calls Try.prog 18 #[.agg #[.int .i64 (n : Int), .slice a es.length cap], .int .i64 (f : Int), .int .i64 (t : Int)] w (WayBack (pathL (backF n (nes es) (distF n es f) t) K) (K + 1) (distF n es f t) 0 w) := by
  obtain ⟨g1, g2⟩ := look_ok h0
  obtain ⟨g3, g4⟩ := posErr_ok g1
  obtain ⟨n1, n2, n3, n4⟩ := netErr_ok g3
  have hf : f < n := by have := g2 f (by simp); omega
  have ht : t < n := by have := g2 t (by simp); omega
  have hL := hide (fun a1 c1 w B hB hE hP => by have := look_any (n : Int) a cap es a1 c1 2 [(f : Int), (t : Int)] rfl w B hB hE hP (by omega) (by omega); rw [h0] at this; exact this)
  have hR := hide (fun w B hB hE => run_any n a cap es f w B hB hE (by omega) (by omega) n3 n4 g4 hf)
  have hltF : distF n es f t < 1099511627776 := (hK1 0 (Nat.zero_le _)).2
  have hKb : K ≤ 1099511627776 := by omega
  replace g4 := hide g4
  have hes := hide (show Right n es from n4)
  replace hE := hide hE
  clear h0 g1 g2 g3 n4
  obtain ⟨d, hd⟩ : ∃ d, d = distF n es f := ⟨_, rfl⟩
  rw [← hd] at hK0 hK1 hK2 hK3 hd0 hltF hR ⊢
  obtain ⟨b, hb⟩ : ∃ b, b = backF n (nes es) d t := ⟨_, rfl⟩
  rw [← hb] at hK0 hK1 hK2 ⊢
  have hb0 : b 0 = t := by rw [hb]; rfl
  have hbs := hide (fun i => show b (i + 1) = prevF n (nes es) d (b i) by rw [hb]; rfl)
  replace hb := hide hb
  replace hd := hide hd
  replace hK0 := hide hK0
  replace hK1 := hide hK1
  replace hK2 := hide hK2
  replace hd0 := hide hd0
  replace hb0 := hide hb0
  go_enter Try.func18, Try.ntmps18
  go_wp2_with fail
  refine (hL.out _ _ _ (w.heap.size + 1 + 1 + 1) (by simp) ((hE.out.below ((by repeat (first | with_reducible exact Below.refl _ _ | with_reducible assumption | with_reducible refine up_drewN ?_ | with_reducible refine up_drew ?_ | (with_reducible refine up_alloc ?_ ?_; rotate_left; (first | omega | (simp <;> omega) | simp)) | (with_reducible refine up_set ?_ ?_; rotate_left; (first | omega | (simp <;> omega) | simp)) | (with_reducible refine Below.trans ?_ (Below.mono (by with_reducible assumption) ?_); rotate_left; (first | omega | (simp <;> omega) | simp)))) : Below w.heap.size w _) hB).mono (by omega)) ((row2 (by simp [go_sem]) (by simp [go_sem])).mono (by simp))).mono ?_
  rintro e w1 ⟨rfl, hb1⟩
  obtain ⟨hc1, hf1⟩ := bcell hb1
  have hz1 : w.heap.size + 1 + 1 < w1.heap.size := by have := hb1.size; simp at this; omega
  have hz0 : w.heap.size + 1 < w1.heap.size := by omega
  have hzz : w.heap.size < w1.heap.size := by omega
  go_wp2_with fail
  refine (hR.out _ B (by omega) (hE.out.below ((by repeat (first | with_reducible exact Below.refl _ _ | with_reducible assumption | with_reducible refine up_drewN ?_ | with_reducible refine up_drew ?_ | (with_reducible refine up_alloc ?_ ?_; rotate_left; (first | omega | (simp <;> omega) | simp)) | (with_reducible refine up_set ?_ ?_; rotate_left; (first | omega | (simp <;> omega) | simp)) | (with_reducible refine Below.trans ?_ (Below.mono (by with_reducible assumption) ?_); rotate_left; (first | omega | (simp <;> omega) | simp)))) : Below w.heap.size w _) hB)).mono ?_
  rintro e w2 ⟨av, cv, rfl, own, hb2⟩
  obtain ⟨D, rfl, hD1, hD2⟩ := own.blockI (by omega)
  have hI : WyI w n a es.length cap D d w2 := ⟨cu_below hb2 (by simp [hc1, go_sem, hzz]) hzz, cu_below hb2 (by simp [hc1, go_sem, hzz]) hzz, cu_below hb2 (by simp [hc1, go_sem, hz0]) hz0, cu_below hb2 (by simp [hc1, go_sem, hz0]) hz0, fu_below hb2 (by simp [hf1, go_sem, hz0]) hz0, fu_below hb2 (by simp [hf1, go_sem, hz0]) hz0, fun u hu => own.atI u hu, hD2, (by repeat (first | with_reducible exact Below.refl _ _ | with_reducible assumption | with_reducible refine up_drewN ?_ | with_reducible refine up_drew ?_ | (with_reducible refine up_alloc ?_ ?_; rotate_left; (first | omega | (simp <;> omega) | simp)) | (with_reducible refine up_set ?_ ?_; rotate_left; (first | omega | (simp <;> omega) | simp)) | (with_reducible refine Below.trans ?_ (Below.mono (by with_reducible assumption) ?_); rotate_left; (first | omega | (simp <;> omega) | simp))))⟩
  replace hI := hide hI
  have c0 := own.atI t ht
  have it : (0 : Int) ≤ (t : Int) ∧ (t : Int) < (n : Int) := by omega
  obtain ⟨dt, hdt⟩ : ∃ x, x = d t := ⟨_, rfl⟩
  rw [← hdt] at c0 hltF hK3
  have q0 : (dt == 1099511627776) = false := by simp; omega
  replace hdt := hide hdt
  clear hb1 hc1 hf1 hb2 own hL hR
  go_wp2
  have own1 := hide (own_one w2 w2.heap.size 3 (t : Int) (Nat.le_refl _))
  have hI1 := hide (hI.out.stays ((Below.refl _ _).alloc (Nat.le_refl _) (.cells #[.int .i64 (t : Int)] 3)))
  have hz2 := hI.out.dlt
  have hzw2 : w.heap.size + 1 < w2.heap.size := cell_lt hI.out.r0
  generalize (w2.alloc (.cells #[.int .i64 (t : Int)] 3)) = w3 at own1 hI1 ⊢
  clear c0
  go_loopg [10, 11] K (fun gk s10 s11 wr => ∃ (i g c : Nat), i + gk = K ∧ s11 = .int .i64 ((b i : Nat) : Int) ∧ s10 = .slice (some ⟨g, 0, none⟩) (i + 1) c ∧ Hid (Own encI 1 3 wr w2.heap.size (.slice (some ⟨g, 0, none⟩) (i + 1) c) (LI (i + 1) (fun j => ((b j : Nat) : Int)))) ∧ Hid (WyI w n a es.length cap D d wr))
  case atStart => exact ⟨0, _, _, by omega, by rw [hb0.out], rfl, by
    have e1 : LI (0 + 1) (fun j => ((b j : Nat) : Int)) = [(t : Int)] := by simp [LI, hb0.out]
    rw [e1]; exact own1, hI1⟩
  case round =>
    obtain ⟨i, g, c, hik, rfl, rfl, own, hI2⟩ := hrel
    clear own1 hI1
    have kb0 := hI2.out.b0
    have kb1 := hI2.out.b1
    have hzr := hI2.out.dlt
    have hbel := hI2.out.bel
    have hw0 : w.heap.size < wr.heap.size := cell_lt kb0
    obtain ⟨v, hv⟩ : ∃ v, v = b i := ⟨_, rfl⟩
    have hvn := hK1.out i (by omega)
    rw [← hv] at hvn ⊢
    by_cases hvf : v = f
    · have hiK : i = K := by
        rcases Nat.lt_or_ge i K with h | h
        · exact absurd (hv ▸ hvf) (hK2.out i h)
        · omega
      subst hiK
      have q1 : ((v : Int) != (f : Int)) = false := by simp; omega
      have ct := hI2.out.dist t ht
      rw [← hdt.out] at ct
      have hIo := hI2
      have hw1 : w.heap.size + 1 < wr.heap.size := cell_lt hI2.out.r0
      replace hv := hide hv
      replace hvf := hide hvf
      have hb0' := hide hbel
      have hZ0 : WzI wr dt (.slice none 0 0) [] (wr.alloc (.cells #[.slice none 0 0, .int .i64 dt] 36)) :=
        ⟨by simp [go_sem], by simp [go_sem], by simp [go_sem], Own.nil _ _, up_alloc (Below.refl _ _) (Nat.le_refl _)⟩
      replace hZ0 := hide hZ0
      clear kb0 kb1 hbel
      go_wp2
      obtain ⟨wo, rfl⟩ : ∃ wo : World, wo = wr := ⟨_, rfl⟩
      generalize (wo.alloc (.cells #[.slice none 0 0, .int .i64 dt] 36)) = wz at hZ0 ⊢
      go_loopw [16] (fun s16 wr => ∃ (j k c0 : Nat) (a0 : Option Addr), j + k = i + 1 ∧ s16 = .int .i64 ((j : Int) - 1) ∧ Hid (WzI wo dt (.slice a0 k c0) ((pathL b i).take k) wr)) (fun s16 _ => (intOf s16 + 1).toNat)
      case atStart => exact ⟨i + 1, 0, 0, none, by omega, by go_num, by rw [List.take_zero]; exact hZ0⟩
      case round =>
        obtain ⟨j, k, c0, a0, hjk, rfl, hZ⟩ := hrel
        clear hZ0
        have z0 := hZ.out.o0
        have z1 := hZ.out.o1
        have zf := hZ.out.fo
        have zl := hZ.out.lt
        rcases j with _ | j
        · obtain rfl : k = i + 1 := by omega
          have e0 : ((0 : Nat) : Int) - 1 = -1 := by omega
          rw [e0]
          have hz7 := hZ.out.bel.size
          have r0 := cu_below hZ.out.bel hIo.out.r0 hw1
          have r1 := cu_below hZ.out.bel hIo.out.r1 hw1
          have f0 := fu_below hZ.out.bel hIo.out.f0 hw1
          have f1 := fu_below hZ.out.bel hIo.out.f1 hw1
          have hrl : w.heap.size + 1 < wr.heap.size := by omega
          have e2 : (pathL b i).take (i + 1) = pathL b i := List.take_of_length_le (by rw [pathL_len]; omega)
          have hne : (Value.slice a0 (i + 1) c0).ownBlock ≠ some (w.heap.size + 1) := fun e => by have := (hZ.out.own.block_lt (w.heap.size + 1) e).1; omega
          have own8 := (hZ.out.own.elsewhere (p := ⟨w.heap.size + 1, 0, none⟩) hne (.slice a0 (i + 1) c0)).elsewhere (p := ⟨w.heap.size + 1, 1, none⟩) hne (.int .i64 dt)
          rw [e2] at own8
          have hrow := own8.row lenI
          replace hrow := hide hrow
          have hbf := hide (((hb0'.out.trans (hZ.out.bel.mono (by omega))).setCell (p := ⟨w.heap.size + 1, 0, none⟩) (by simp) (.slice a0 (i + 1) c0)).setCell (p := ⟨w.heap.size + 1, 1, none⟩) (by simp) (.int .i64 dt))
          clear own8 hne e0 e2
          go_wp2
          refine bodyPost_ret (v := .tuple #[.agg #[.slice a0 (i + 1) c0, .int .i64 dt], .int .i64 0]) (by simp [results, Try.results18, go_sem, r0, r1, hrl]) rfl ?_
          obtain ⟨a8, c8, hv8, r8, _⟩ := hrow.out
          simp only [Value.slice.injEq] at hv8
          obtain ⟨rfl, _, rfl⟩ := hv8
          rw [← hdt.out]
          exact ⟨_, _, rfl, r8, hbf.out⟩
        · have e1 : ((j + 1 : Nat) : Int) - 1 = (j : Int) := by omega
          rw [e1]
          have cb := cu_below hZ.out.bel (own.out.atI j (by omega)) own.out.at_base.2
          have hgl : g < wr.heap.size := cell_lt cb
          have hlen : ((pathL b i).take k).length = k := by rw [List.length_take, pathL_len]; omega
          have hpt := pathL_take b i k (by omega)
          have e2 : i - k = j := by omega
          rw [e2] at hpt
          obtain ⟨x, hx⟩ : ∃ x : Int, x = ((b j : Nat) : Int) := ⟨_, rfl⟩
          rw [← hx] at hpt cb
          replace hx := hide hx
          replace hpt := hide hpt
          replace hlen := hide hlen
          have ij : (0 : Int) ≤ (j : Int) ∧ (j : Int) < (i : Int) + 1 := by omega
          have ij2 : (j : Int) < ((i + 1 : Nat) : Int) := by omega
          have hki : k ≤ i := by omega
          clear e1 e2
          go_wp2
          go_region_law (first
            | (refine step_pushAll (base := wo.heap.size + 1) (xs := (pathL b i).take k) (v := .slice a0 k c0) rfl (.tmp 92) (.tmp 97) 29 rfl _ 8 Try.underlying29 info_int rfl (by omega) lenI oneI k hlen.out rfl (hZ.out.own.alloc _).drew (wr.heap.size + 1) (some ⟨wr.heap.size, 0, none⟩) 1 1 [x] rfl rfl ((row1 (by simp [go_sem])).mono (by simp)) (by omega) (by unfold maxLen; omega) (by simp; omega) ?_; intro a4 c4 w4 own4 hb4 hg4; have hZ4 := (hZ.out.stays (w' := wr.alloc (.cells #[.int .i64 x] 3)) (up_alloc (Below.refl _ _) (Nat.le_refl _))); have hg5 : (wr.alloc (.cells #[.int .i64 x] 3)).grownBy w4 (Value.slice a0 k c0).ownBlock := ⟨hg4.os, hg4.tape, hg4.output, hg4.size, hg4.block⟩; have hZ5 := hZ4.grew own4 hg5; rw [← hpt.out] at hZ5; have hap4 := hZ4.ap; have k4 := hg5.cell hZ4.o0 (fun e => hap4 e.symm); have f4 := (hg5.frozen_far ⟨wo.heap.size, 0, none⟩ (by first | (simp; done) | (simp; omega)) (fun e => hap4 e.symm)).trans hZ4.fo))
          all_goals
            replace own4 := hide own4
            replace hb4 := hide hb4
            replace hg4 := hide hg4
            replace hg5 := hide hg5
            replace hZ4 := hide hZ4
            replace hZ5 := hide hZ5
            clear k4 f4 hap4 cb
            go_wp2
            go_roundw
            case rel => exact ⟨j, k + 1, c4, a4, by omega, by go_num, hZ5⟩
            case measure => simp [intOf] <;> omega
    · have hiK : i < K := by
        rcases Nat.lt_or_ge i K with h | h
        · exact h
        · exfalso
          have : i = K := by omega
          subst this
          exact hvf (by rw [hv]; exact hK0.out)
      have q1 : ((v : Int) != (f : Int)) = true := by simp; omega
      have hb1' := hide (show b (i + 1) = prevF n (nes es) d v by rw [hbs.out, hv])
      have hB2 := hide hI2.out.bel
      replace hv := hide hv
      replace hvf := hide hvf
      clear hbel
      obtain ⟨wo, rfl⟩ : ∃ wo : World, wo = wr := ⟨_, rfl⟩
      go_wp2
      go_loopw [12, 46] (fun s12 s46 wr => ∃ k : Nat, k ≤ es.length ∧ s46 = .int .i64 k ∧ s12 = .int .i64 ((pvK n es d v k : Nat) : Int) ∧ Hid (Below wo.heap.size wo wr)) (fun _ s46 _ => es.length - (intOf s46).toNat)
      case atStart => exact ⟨0, Nat.zero_le _, rfl, by rw [pvK_zero], Below.refl _ _⟩
      case round =>
        obtain ⟨k, hk, rfl, rfl, hb⟩ := hrel
        have hI3 := hide (hI2.out.stays hb.out)
        have hzq := hb.out.size
        have kb1 := hI3.out.b1
        have kb0 := hI3.out.b0
        obtain ⟨u0, hu0⟩ : ∃ u, u = pvK n es d v k := ⟨_, rfl⟩
        rw [← hu0]
        by_cases hlt : k < es.length
        · obtain ⟨x, y, d1, d2, d3, d4, d5, d6, dn⟩ := right_edge hes.out k hlt
          have hsu := hide (pvK_succ (n := n) (d := d) (v := v) dn)
          rw [← hu0] at hsu
          replace hu0 := hide hu0
          obtain ⟨eb, o, rfl, hbB, c0, c1, c2⟩ := hE.out.ed k hlt
          have c0 := cu_below hI3.out.bel c0 (by simp; omega)
          have c1 := cu_below hI3.out.bel c1 (by simp; omega)
          have c2 := cu_below hI3.out.bel c2 (by simp; omega)
          rw [d1] at c0
          rw [d2] at c1
          have hel : eb < wr.heap.size := cell_lt c0
          have cx := hI3.out.dist x d3
          have cv := hI3.out.dist v hvn.1
          have hDq := hI3.out.dlt
          have hdx := hd0.out x d3
          have hdv := hd0.out v hvn.1
          obtain ⟨c, hc⟩ : ∃ c, c = es[k].c := ⟨_, rfl⟩
          obtain ⟨p, hp⟩ : ∃ p, p = d x := ⟨_, rfl⟩
          obtain ⟨r, hr⟩ : ∃ r, r = d v := ⟨_, rfl⟩
          rw [← hc] at c2 d5 d6 hsu
          rw [← hp] at cx hdx hsu
          rw [← hr] at cv hdv hsu
          unfold FAR at hdx hdv
          have hw := hide (show IntKind.i64.wrap (p + c) = p + c from IntWalk.i64_in _ (by omega))
          have ix : (0 : Int) ≤ (x : Int) ∧ (x : Int) < (n : Int) := by omega
          have iv : (0 : Int) ≤ (v : Int) ∧ (v : Int) < (n : Int) := by omega
          have ik : (0 : Int) ≤ (k : Int) ∧ (k : Int) < (es.length : Int) := by omega
          replace hc := hide hc
          replace hp := hide hp
          replace hr := hide hr
          replace d1 := hide d1
          replace d2 := hide d2
          replace dn := hide dn
          have hcase : (y = v ∧ p + c = r) ∨ (y = v ∧ p + c ≠ r) ∨ y ≠ v := by
            by_cases h1 : y = v
            · by_cases h2 : p + c = r
              · exact .inl ⟨h1, h2⟩
              · exact .inr (.inl ⟨h1, h2⟩)
            · exact .inr (.inr h1)
          have hb4 := hide (show ∀ m, Below wo.heap.size wo ((wr.alloc (.cells #[.int .i64 (x : Int), .int .i64 (y : Int), .int .i64 c] 34)).drewN m) from fun m => up_drewN (up_alloc hb.out hzq))
          rcases hcase with ⟨h1, h2⟩ | ⟨h1, h2⟩ | h1
          · have e1 := hide (show pvK n es d v (k + 1) = min u0 x by rw [hsu.out, if_pos ⟨h1, h2⟩])
            have q2 : ((y : Int) == (v : Int)) = true := by simp; omega
            have q3 : (p + c == r) = true := by simp; omega
            replace h1 := hide h1
            replace h2 := hide h2
            go_wp2
            replace hw := hw.out
            go_quiet (fail)
            clear hw
            go_wp2
            go_roundw
            case rel => exact ⟨k + 1, by omega, by go_num, by rw [e1.out]; congr 1; split <;> omega, hide (hb4.out _)⟩
            case measure => simp [intOf] <;> omega
          · have e1 := hide (show pvK n es d v (k + 1) = u0 by rw [hsu.out, if_neg (fun h => h2 h.2)])
            have q2 : ((y : Int) == (v : Int)) = true := by simp; omega
            have q3 : (p + c == r) = false := by simp; omega
            replace h1 := hide h1
            replace h2 := hide h2
            go_wp2
            replace hw := hw.out
            go_quiet (fail)
            clear hw
            go_wp2
            go_roundw
            case rel => exact ⟨k + 1, by omega, by go_num, by rw [e1.out], hide (hb4.out _)⟩
            case measure => simp [intOf] <;> omega
          · have e1 := hide (show pvK n es d v (k + 1) = u0 by rw [hsu.out, if_neg (fun h => h1 h.1)])
            have q2 : ((y : Int) == (v : Int)) = false := by simp; omega
            replace h1 := hide h1
            go_wp2
            go_quiet (fail)
            go_wp2
            go_roundw
            case rel => exact ⟨k + 1, by omega, by go_num, by rw [e1.out], hide (hb4.out _)⟩
            case measure => simp [intOf] <;> omega
        · obtain rfl : k = es.length := by omega
          have hu1 : u0 = b (i + 1) := by rw [hu0, pvK_all, hb1'.out]
          replace hu0 := hide hu0
          replace hu1 := hide hu1
          have hown := hide (own.out.stays hb.out)
          have hlen : (LI (i + 1) (fun j => ((b j : Nat) : Int))).length = i + 1 := li_len _ _
          replace hlen := hide hlen
          have hDq := hI3.out.dlt
          have hgb := hown.out.at_base
          go_wp2_with (at_builtin; (refine wpList_push (e := 3) (enc := encI) (xs := (LI (i + 1) (fun j => ((b j : Nat) : Int)))) (v := .slice (some ⟨g, 0, none⟩) ((i + 1)) c) (base := w2.heap.size) rfl (.tmp 74) (.tmp 76) 29 rfl _ 8 Try.underlying29 info_int rfl ?d15 lenI oneI ((i + 1)) ?d25 ?d35 ?d45 ⟨wr.heap.size, 0, none⟩ 1 ((u0 : Nat) : Int) ?d55 ?d65 ?d75 ?d85 ?d95 ?_); (case d15 => omega); (case d25 => exact hlen.out); (case d35 => rfl); (case d45 => exact (hown.out.alloc _)); (case d55 => rfl); (case d65 => exact newI _ _ _ _ rfl); (case d75 => omega); (case d85 => unfold maxLen; omega); (case d95 => first | omega | (simp; done) | (simp; omega)); intro g5 c5 w5 own5 hb5 hgr5 hg5 hgl5; have hB5 := hide (unalloc hb5 (by omega)); replace own5 := hide own5; replace hb5 := hide hb5; replace hgr5 := hide hgr5)
          have hl2 : LI (i + 1) (fun j => ((b j : Nat) : Int)) ++ [((u0 : Nat) : Int)] = LI (i + 1 + 1) (fun j => ((b j : Nat) : Int)) := by rw [hu1.out]; exact (li_succ (i + 1) _).symm
          have own6 := own5.out
          rw [hl2] at own6
          replace own6 := hide own6
          have hI5 := hide (hI3.out.kept hB5.out hz2 hzw2)
          go_roundg (gk - 1)
          case measure => omega
          case rel => exact ⟨i + 1, g5, c5, by omega, by rw [hu1.out], rfl, own6, hI5⟩
end Go.Proofs.Ytcehdpeeaogpiaa
