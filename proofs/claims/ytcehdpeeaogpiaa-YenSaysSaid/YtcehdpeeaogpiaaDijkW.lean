/-
  What dijk.Run returns: the costs from a place. Conditions: a right net, costs above 0.
-/
import Derived.Test.YtcehdpeeaogpiaaHeapN
import Derived.Test.YtcehdpeeaogpiaaDijkO
import Derived.Test.YtcehdpeeaogpiaaStart
import Derived.Deep.LoopGhost
namespace Go.Proofs.Ytcehdpeeaogpiaa
open Go.RowKit
set_option linter.unusedSimpArgs false
set_option linter.unusedVariables false
def lessV : Value := .func (.func 168) #[] #[]
/-- what holds while Run runs: wH is the world ahead of the heap, D the block of the costs -/
structure DW (w wH : World) (n : Nat) (d : Nat → Int) (v : Value) (k : Nat) (f : Nat → P2) (wr : World) : Prop where
  dist : Own encI 1 3 wr w.heap.size (.slice (some ⟨w.heap.size + 1, 0, none⟩) n n) (LI n d)
  heap : HeapAt wr wH.heap.size wH.heap.size (.func (.func 168) #[] #[]) v k f
  keep : Keep (fun k => k = w.heap.size + 1) wH wr
  low : w.heap.size + 1 < wH.heap.size
section
variable {w wH wr w' : World} {n k : Nat} {d : Nat → Int} {v : Value} {f : Nat → P2}
theorem DW.stays (h : DW w wH n d v k f wr) (b : Below wr.heap.size wr w') : DW w wH n d v k f w' :=
  ⟨h.dist.stays b, h.heap.stays b, h.keep.trans (Keep.new b), h.low⟩
theorem DW.kept (h : DW w wH n d v k f wr) {T : Nat → Prop} (kp : Keep T wr w') (hT : ∀ k, T k → wH.heap.size ≤ k) {v' : Value} {k' : Nat} {f' : Nat → P2} (hh : HeapAt w' wH.heap.size wH.heap.size (.func (.func 168) #[] #[]) v' k' f') : DW w wH n d v' k' f' w' :=
  ⟨kp.own h.dist (fun j hj hT2 => by have := hT j hT2; have := h.low; simp [Value.ownBlock] at hj; omega), hh, h.keep.trans2 kp (fun k hk => .inr (hT k hk)), h.low⟩
theorem DW.push (h : DW w wH n d v k f wr) {k' : Nat} {f' : Nat → P2} (hp : Heaped wr wH.heap.size wH.heap.size (.func (.func 168) #[] #[]) v k' f' w') : ∃ gs c, DW w wH n d (.slice (some ⟨gs, 0, none⟩) k' c) k' f' w' ∧ (v.ownBlock = some gs ∨ wr.heap.size ≤ gs) := by
  obtain ⟨gs, c, h1, h2, h3⟩ := hp
  refine ⟨gs, c, h.kept h2 (fun j hj => ?_) h1, h3⟩
  rcases hj with rfl | hj
  · exact Nat.le_refl _
  · exact (h.heap.own.block_lt j hj).1
theorem DW.setD (h : DW w wH n d v k f wr) (u : Nat) (hu : u < n) (x : Int) : DW w wH n (upz d u x) v k f (wr.setCell ⟨w.heap.size + 1, u, none⟩ (.int .i64 x)) := by
  have kp := (Keep.refl (fun k => k = w.heap.size + 1) wr).setCell (p := ⟨w.heap.size + 1, u, none⟩) (.inl rfl) (.int .i64 x)
  have hl := h.low
  refine ⟨h.dist.setI u hu x, h.heap.keep kp (by omega) (fun j hj => ?_), h.keep.setCell (.inl rfl) _, h.low⟩
  have := (h.heap.own.block_lt j hj).1
  omega
end
set_option maxRecDepth 100000 in
set_option maxHeartbeats 4000000 in
theorem run_gen (n : Nat) (a : Option Addr) (cap : Nat) (es : List Ed) (v : Nat) (w : World) (B : Nat) (hB : B ≤ w.heap.size) (hE : Row encE 3 w B a es) (hn1 : 1 ≤ n) (hn : n ≤ 64) (hl : es.length ≤ 9000) (hes : RightK 9000000 n es) (hpos : ∀ e ∈ es, 0 ≤ e.c) (hv : v < n) :
    Calls Try.prog 87 #[.agg #[.int .i64 (n : Int), .slice a es.length cap], .int .i64 (v : Int)] w (OwnBack encI 1 3 (LI n (distF n es v)) n w) := by
  replace hE := hide hE
  replace hes := hide hes
  replace hpos := hide hpos
  go_enter Try.func87, Try.ntmps87
  go_wp2_with (at_make; (refine wpList_mk (e := 3) (enc := encI) rfl (.tmp 15) 29 rfl (.int .i64 0) 8 (0 : Int) Try.underlying29 info_int rfl rfl (n) ?e11 ?e21 ?e31 (w.heap.size) ?e41 ?_); (case e11 => rfl); (case e21 => omega); (case e31 => unfold maxLen; omega); (case e41 => first | omega | (simp; done) | (simp; omega)); intro w1 own1 hb1 hsz1; replace own1 := hide own1; replace hb1 := hide hb1)
  have own2 : Hid (Own encI 1 3 w1 w.heap.size (.slice (some ⟨w.heap.size + 1, 0, none⟩) n n) (List.replicate n 0)) := by
    have h := own1.out
    simp only [World.size_alloc] at h
    exact hide h
  have hbw1 : Below (w.heap.size + 1) (w.alloc (.cells #[.int .i64 (n : Int), .slice a es.length cap] 24)) w1 := by
    have h := hb1.out
    simp only [World.size_alloc] at h
    exact h
  have k0 : w1.cell? ⟨w.heap.size, 0, none⟩ = some (.int .i64 (n : Int)) := cu_below hbw1 (by simp [go_sem]) (by simp)
  have k1 : w1.cell? ⟨w.heap.size, 1, none⟩ = some (.slice a es.length cap) := cu_below hbw1 (by simp [go_sem]) (by simp)
  have hB1 := hide (unalloc (hbw1.mono (by omega)) (Nat.le_refl _) : Below w.heap.size w w1)
  clear own1 hb1 hbw1 hsz1
  go_loopw [6, 19] (fun _ i wr => ∃ (k : Nat), k ≤ n ∧ i = .int .i64 k ∧ Hid (Own encI 1 3 wr w.heap.size (.slice (some ⟨w.heap.size + 1, 0, none⟩) n n) (LI n (first k (fun _ => FAR) (fun _ => 0)))) ∧ wr.cell? ⟨w.heap.size, 0, none⟩ = some (.int .i64 (n : Int)) ∧ wr.cell? ⟨w.heap.size, 1, none⟩ = some (.slice a es.length cap) ∧ Hid (Below w.heap.size w wr)) (fun _ i _ => n - (intOf i).toNat)
  case atStart => exact ⟨0, Nat.zero_le _, rfl, by rw [first_zero, ← li_rep]; exact own2, k0, k1, hB1⟩
  case round =>
    obtain ⟨k, hk, rfl, own, k2, k3, hb⟩ := hrel
    have hfr := own.out.free
    have hgs := own.out.at_base
    clear k0 k1 own2 hB1
    by_cases hlt : k < n
    · have c0 := own.out.atI k hlt
      have own2 := own.out.setI k hlt FAR
      rw [first_step k (fun _ => FAR) (fun _ => 0)] at own2
      replace own2 := hide own2
      go_wp2
      go_roundw
      case rel => exact ⟨k + 1, by omega, by go_num, own2, cu_set k2 (by simp), cu_set k3 (by simp), hide (hb.out.setCell (by simp) _)⟩
      case measure => simp [intOf]; omega
    · obtain rfl : n = k := by omega
      have own3 := own.out
      rw [first_all] at own3
      have c0 := own3.atI v hv
      have own4 := own3.setI v hv 0
      rw [stF_upz] at own4
      replace own4 := hide own4
      clear own3 own
      have i1 : (0 : Int) ≤ (v : Int) ∧ (v : Int) < (n : Int) := by omega
      have k4 : (wr.setCell ⟨w.heap.size + 1, v, none⟩ (.int .i64 0)).cell? ⟨w.heap.size, 0, none⟩ = some (.int .i64 (n : Int)) := cu_set k2 (by simp)
      have k5 : (wr.setCell ⟨w.heap.size + 1, v, none⟩ (.int .i64 0)).cell? ⟨w.heap.size, 1, none⟩ = some (.slice a es.length cap) := cu_set k3 (by simp)
      have hbA := hide (hb.out.setCell (p := ⟨w.heap.size + 1, v, none⟩) (by simp) (.int .i64 0))
      go_wp2_with fail
      generalize wr.setCell ⟨w.heap.size + 1, v, none⟩ (.int .i64 0) = wa at own4 k4 k5 hbA ⊢
      clear k2 k3 hfr hgs hk hb c0
      refine (outs_any n a cap es wa B (by have := hbA.out.size; omega) (hE.out.below hbA.out hB) hn hl (fun e he => by have := hes.out e he; omega)).mono ?_
      rintro e wH ⟨O, rfl, oOwn, hbH⟩
      have hB2 := hide (hbA.out.trans (hbH.mono hbA.out.size))
      have own5 := hide (own4.out.stays hbH)
      have hla : w.heap.size + 1 < wa.heap.size := own4.out.at_base.2
      have k6 := hide (cu_below hbH k4 (cell_lt k4))
      have k7 := hide (cu_below hbH k5 (cell_lt k5))
      have hlH : wa.heap.size ≤ wH.heap.size := hbH.size
      replace oOwn := hide oOwn
      clear k4 k5 own4 hbH hbA hlt
      go_wp2_with fail
      refine (new_any 168 wH).mono ?_
      rintro e w3 ⟨rfl, hw3⟩
      have hfr := HeapAt.fresh wH (.func (.func 168) #[] #[]) (fun _ => ⟨0, 0⟩) 244
      rw [← hw3] at hfr
      have hbN : Below wH.heap.size wH w3 := by rw [hw3]; exact (Below.refl _ _).alloc (Nat.le_refl _) _
      have hD0 : DW w wH n (stF v) (.slice none 0 0) 0 (fun _ => ⟨0, 0⟩) w3 := ⟨own5.out.stays hbN, hfr, Keep.new hbN, by omega⟩
      replace hD0 := hide hD0
      replace hfr := hide hfr
      clear hbN own5
      replace hw3 := hide hw3
      go_wp2_with fail
      refine (push_any wH.heap.size wH.heap.size 0 none 0 (fun _ => ⟨0, 0⟩) ⟨0, (v : Int)⟩ w3 hfr.out (by omega)).mono ?_
      rintro e w4 ⟨rfl, hP⟩
      rw [siftUp_top] at hP
      obtain ⟨gs, c, hD1, _⟩ := hD0.out.push hP
      have hI := hide (DInv.start (n := n) (E := nes es) (s := stF v) v hv (by simp [stF]) (fun u hu => by simp [stF, hu]))
      have hl1 : RW (0 + 1) (upz (fun _ => (⟨0, 0⟩ : P2)) 0 ⟨0, (v : Int)⟩) = [⟨0, (v : Int)⟩] := by rw [rw_push]; rfl
      rw [← hl1] at hI
      have hok := hide (show HeapOK popLt (0 + 1) (upz (fun _ => (⟨0, 0⟩ : P2)) 0 ⟨0, (v : Int)⟩) from fun i h1 h2 => by omega)
      have hrs := rest_le (nes es) (fun _ => false)
      have hnl : (nes es).length = es.length := by simp [nes]
      replace hD1 := hide hD1
      generalize upz (fun _ => (⟨0, 0⟩ : P2)) 0 ⟨0, (v : Int)⟩ = f1 at hI hok hD1
      clear hP hD0 hfr hl1 hw3
      go_wp2_with fail
      go_loopg [] 9001 (fun gk wr => ∃ (d : Nat → Int) (S : Nat → Bool) (m : Int) (k : Nat) (a0 : Option Addr) (c0 : Nat) (f : Nat → P2), Hid (DW w wH n d (.slice a0 k c0) k f wr) ∧ Hid (DInv n (nes es) (stF v) S m [] d (RW k f)) ∧ Hid (HeapOK popLt k f) ∧ k + rest (nes es) S ≤ gk ∧ gk ≤ 9001)
      case atStart => exact ⟨_, _, _, _, _, _, _, hD1, hI, hok, by omega, by omega⟩
      case round =>
        clear hD1 hI hok hrs hnl
        obtain ⟨d, S, m, k, a0, c0, f, hD, hI, hok, hkr, hgk⟩ := hrel
        have hc1 := hD.out.heap.c1
        by_cases hk0 : k = 0
        · subst hk0
          go_wp2_with fail
          refine (len_any _ _ _ _ _ hc1).mono ?_
          rintro e w5 ⟨rfl, rfl⟩
          go_wp2
          go_ret
          have hI0 : DInv n (nes es) (stF v) S m [] d [] := hI.out
          refine ⟨_, _, rfl, ?_, hB2.out.trans (hD.out.keep.toBelow (fun j hj => by omega) hB2.out.size)⟩
          have e1 : LI n (distF n es v) = LI n d := li_congr (fun u hu => hI0.done hn1 (nes_rightK hes.out) (stF_far v) u hu)
          rw [e1]
          exact hD.out.dist
        · obtain ⟨q, rfl⟩ : ∃ q, k = q + 1 := ⟨k - 1, by omega⟩
          obtain ⟨gs, rfl, hgs1, hgs2⟩ := hD.out.heap.own.blockI' (by omega)
          have hq : (0 : Int) < ((q + 1 : Nat) : Int) := by omega
          have hent := hI.out.ent (f 0) (by rw [RW]; exact List.mem_map.2 ⟨0, by simp, rfl⟩)
          obtain ⟨u, hu⟩ := Int.eq_ofNat_of_zero_le hent.1
          have hun : u < n := by omega
          obtain ⟨pa, hpa⟩ : ∃ pa, pa = (f 0).a := ⟨_, rfl⟩
          have hf0 : f 0 = ⟨pa, (u : Int)⟩ := by rw [hpa, ← hu]
          rw [hf0] at hent
          simp only [Int.toNat_natCast] at hent
          have hPop := pop_any wH.heap.size wH.heap.size q gs c0 f _ hD.out.heap (by omega)
          obtain ⟨p1, p2⟩ := pop_ok popLt_ord hok.out
          have hmin := hide (fun i hi => heap_top popLt_ord hok.out i hi)
          rw [hf0] at hPop p2 hmin
          replace hPop := hide hPop
          replace p1 := hide p1
          replace p2 := hide p2
          have hDk := hide (fun w' f' h1 h2 => hD.out.kept (w' := w') (T := fun k => k = wH.heap.size ∨ k = gs) h1 (fun j hj => by rcases hj with rfl | rfl; exact Nat.le_refl _; exact hgs1) (v' := .slice (some ⟨gs, 0, none⟩) q c0) (k' := q) (f' := f') h2)
          generalize siftDown popLt q (upz f 0 (f q)) 0 = f2 at hPop p1 p2
          clear hf0
          replace hpa := hide hpa
          replace hu := hide hu
          go_wp2_with fail
          refine (len_any _ _ _ _ _ hc1).mono ?_
          rintro e w5 ⟨rfl, rfl⟩
          go_wp2_with fail
          refine hPop.out.mono ?_
          rintro e w5 ⟨rfl, hA5, hK5⟩
          have hD5 := hide (hDk.out _ _ hK5 hA5)
          clear hPop hDk hA5 hK5 hc1 hq
          have cD := hD5.out.dist.atI u hun
          have hl5 : w.heap.size + 1 < w5.heap.size := hD5.out.dist.at_base.2
          have iu : (0 : Int) ≤ (u : Int) ∧ (u : Int) < (n : Int) := by omega
          rcases Int.lt_or_le (d u) pa with hgt | hle
          · go_wp2
            go_quiet (fail)
            have hD6 := hide (hD5.out.stays (w' := (w5.alloc (.cells #[.int .i64 pa, .int .i64 (u : Int)] 205)).drewN nq) (up_drewN (up_alloc (Below.refl _ _) (Nat.le_refl _))))
            have hI6 := hide (hI.out.drop p2.out (by simpa using hgt))
            go_wp2
            go_roundg (gk - 1)
            case measure => omega
            case rel => exact ⟨d, S, m, q, _, _, f2, hD6, hI6, p1, by omega, by omega⟩
          · have hul : u < (outRows n es es.length).length := by rw [outRows_len]; exact hun
            obtain ⟨av, cv, r0, rown, _⟩ := oOwn.out.at u hul
            rw [outRows_get] at r0 rown
            obtain ⟨L, hL⟩ : ∃ L, L = (outIdx es u es.length).length := ⟨_, rfl⟩
            rw [← hL] at r0 rown
            have hLl : L ≤ es.length := by rw [hL]; exact outIdx_len es u es.length
            have hO : wa.heap.size ≤ O ∧ O < wH.heap.size := by obtain ⟨vs, _, h2, _⟩ := oOwn.out; exact h2.at_base
            obtain ⟨hk1, hSu, _, hI6⟩ := hI.out.look (todo := todoOf es u 0) p2.out rfl hle (fun x hx => by
              obtain ⟨i, hi, rfl⟩ := List.mem_map.1 (p2.out.mem_iff.1 (List.mem_cons_of_mem _ hx))
              have h1 := hmin.out i (List.mem_range.1 hi)
              simp only [popLt, Bool.or_eq_false_iff, decide_eq_false_iff_not] at h1
              exact Int.not_lt.1 h1.1) (todo_all hes.out u)
            have hrm := rest_mark (E := nes es) hSu
            rw [← todo_len hes.out u, ← hL] at hrm
            have hSt : upz S u true u = true := upz_same _ _ _
            replace hI6 := hide hI6
            replace hSt := hide hSt
            replace hrm := hide hrm
            replace hL := hide hL
            obtain ⟨S', hS'⟩ : ∃ S', S' = upz S u true := ⟨_, rfl⟩
            rw [← hS'] at hI6 hSt hrm
            have hgk2 : q + L + rest (nes es) S' + 1 ≤ gk := by have := hrm.out; omega
            replace hS' := hide hS'
            replace hk1 := hide hk1
            replace rown := hide rown
            have r1 := hD5.out.keep.cu r0 (by simp; omega)
            have hOl : O < w5.heap.size := cell_lt r1
            have r2 : ∀ o, (w5.alloc (.cells #[.int .i64 pa, .int .i64 (u : Int)] o)).cell? ⟨O, u, none⟩ = some (.slice av L cv) := fun o => cu_alloc r1
            go_wp2
            go_quiet (fail)
            have hb6 : Below w5.heap.size w5 ((w5.alloc (.cells #[.int .i64 pa, .int .i64 (u : Int)] 205)).drewN nq) := up_drewN (up_alloc (Below.refl _ _) (Nat.le_refl _))
            have hD6 := hide (hD5.out.stays hb6)
            have xa : ((w5.alloc (.cells #[.int .i64 pa, .int .i64 (u : Int)] 205)).drewN nq).cell? ⟨w5.heap.size, 0, none⟩ = some (.int .i64 pa) := cu_drewN (by simp [go_sem])
            have xb : ((w5.alloc (.cells #[.int .i64 pa, .int .i64 (u : Int)] 205)).drewN nq).cell? ⟨w5.heap.size, 1, none⟩ = some (.int .i64 (u : Int)) := cu_drewN (by simp [go_sem])
            have r3 : ((w5.alloc (.cells #[.int .i64 pa, .int .i64 (u : Int)] 205)).drewN nq).cell? ⟨O, u, none⟩ = some (.slice av L cv) := cu_drewN (cu_alloc r1)
            have hgsX : gs < w5.heap.size := hD5.out.heap.own.at_base.2
            have hgH : wH.heap.size < w5.heap.size := hD5.out.heap.lt
            clear r2 r0 cD hb6 hD hI hok hpa hu hmin hent p2 hkr
            generalize ((w5.alloc (.cells #[.int .i64 pa, .int .i64 (u : Int)] 205)).drewN nq) = wx at hD6 xa xb r3 ⊢
            have hOx : O < wx.heap.size := cell_lt r3
            replace hgs1 := hide hgs1
            go_wp2
            clear hle
            go_loopw [55] (fun i wr => ∃ (j : Nat) (d : Nat → Int) (k : Nat) (a0 : Option Addr) (c0 : Nat) (f : Nat → P2), j ≤ L ∧ i = .int .i64 j ∧ Hid (DW w wH n d (.slice a0 k c0) k f wr) ∧ Hid (DInv n (nes es) (stF v) S' pa (todoOf es u j) d (RW k f)) ∧ Hid (HeapOK popLt k f) ∧ Hid (d u = pa) ∧ k + (L - j) + rest (nes es) S' + 1 ≤ gk ∧ wr.cell? ⟨w5.heap.size, 0, none⟩ = some (.int .i64 pa) ∧ wr.cell? ⟨w5.heap.size, 1, none⟩ = some (.int .i64 (u : Int)) ∧ Hid ((Value.slice a0 k c0).ownBlock ≠ some w5.heap.size)) (fun i _ => L - (intOf i).toNat)
            case atStart => exact ⟨0, d, q, _, _, f2, Nat.zero_le _, rfl, hD6, hI6, p1, hide hk1.out.symm, by omega, xa, xb, hide (by simp [Value.ownBlock]; omega)⟩
            case round =>
              clear hD6 hI6 p1 hk1 hD5 xa xb r3
              obtain ⟨j, d, k, a0, c0, f, hj, rfl, hD, hI, hok, hdu, hkr, xa, xb, hX⟩ := hrel
              have hXl : w5.heap.size < wr.heap.size := cell_lt xa
              by_cases hlt : j < L
              · have hjl : j < (outIdx es u es.length).length := by rw [← hL.out]; exact hlt
                obtain ⟨i, hi1, hi2, hi3⟩ := outIdx_get es u j hjl
                obtain ⟨u2, vv, e1, e2, e3, e4, e5, e6, -⟩ := right_edgeK hes.out i hi2
                have e7 := hpos.out es[i] (List.getElem_mem hi2)
                have htd := todo_step hjl hi1 hi2 hi3 e2
                obtain ⟨gr, rfl, hgr1, hgr2⟩ := rown.out.blockI' (by omega)
                have rc := rown.out.getI j hjl
                rw [hi1] at rc
                have rc2 := hD.out.keep.cu rc (by simp; omega)
                have hbw : Below w.heap.size w wr := hB2.out.trans (hD.out.keep.toBelow (fun j hj => by omega) hB2.out.size)
                have k8 := hD.out.keep.cu k7.out (by simp)
                have k9 := cell_lt k8
                obtain ⟨b, o, rfl, hbB, c1, c2, c3⟩ := hE.out.ed i hi2
                have hbw2 : b < w.heap.size := by omega
                have c1 := cu_below hbw c1 hbw2
                have c2 := cu_below hbw c2 hbw2
                have c3 := cu_below hbw c3 hbw2
                rw [e1] at c1
                rw [e2] at c2
                have hbr : b < wr.heap.size := cell_lt c1
                have cD := hD.out.dist.atI vv e4
                have fD := hD.out.dist.free vv
                have hl7 : w.heap.size + 1 < wr.heap.size := hD.out.dist.at_base.2
                obtain ⟨ec, hec⟩ : ∃ ec, ec = es[i].c := ⟨_, rfl⟩
                rw [← hec] at c3 e5 e6 e7 htd
                have ij : (0 : Int) ≤ (j : Int) ∧ (j : Int) < (L : Int) := by omega
                have ii : (0 : Int) ≤ (i : Int) ∧ (i : Int) < (es.length : Int) := by omega
                have iv : (0 : Int) ≤ (vv : Int) ∧ (vv : Int) < (n : Int) := by omega
                have hgrl : gr < wr.heap.size := cell_lt rc2
                have hpaF := hI.out.far u
                rw [hdu.out] at hpaF
                unfold FAR at hpaF
                have hpa0 := hI.out.pos u
                rw [hdu.out] at hpa0
                replace e1 := hide e1
                replace e2 := hide e2
                replace hec := hide hec
                replace htd := hide htd
                replace hi1 := hide hi1
                replace hi3 := hide hi3
                replace hbw := hide hbw
                clear rc
                have hX' := hX.out
                have hb9 : Below wr.heap.size wr (wr.alloc (.cells #[.int .i64 (u2 : Int), .int .i64 (vv : Int), .int .i64 ec] 34)) := (Below.refl _ _).alloc (Nat.le_refl _) _
                have hD9 := hide (hD.out.stays hb9)
                have xa9 := cu_below hb9 xa hXl
                have xb9 := cu_below hb9 xb hXl
                have hI9 := hI.out
                rw [htd.out] at hI9
                by_cases hgv : pa + ec < d vv
                · have hpl : k < n + 9100 := by omega
                  have hD10 := hide ((hD.out.setD vv e4 (pa + ec)).stays ((Below.refl _ _).alloc (Nat.le_refl _) (.cells #[.int .i64 (u2 : Int), .int .i64 (vv : Int), .int .i64 ec] 34)))
                  have xa10 : ((wr.setCell ⟨w.heap.size + 1, vv, none⟩ (.int .i64 (pa + ec))).alloc (.cells #[.int .i64 (u2 : Int), .int .i64 (vv : Int), .int .i64 ec] 34)).cell? ⟨w5.heap.size, 0, none⟩ = some (.int .i64 pa) := cu_alloc (cu_set xa (by simp; omega))
                  have xb10 : ((wr.setCell ⟨w.heap.size + 1, vv, none⟩ (.int .i64 (pa + ec))).alloc (.cells #[.int .i64 (u2 : Int), .int .i64 (vv : Int), .int .i64 ec] 34)).cell? ⟨w5.heap.size, 1, none⟩ = some (.int .i64 (u : Int)) := cu_alloc (cu_set xb (by simp; omega))
                  replace xa10 := hide xa10
                  replace xb10 := hide xb10
                  have hPush := hide (push_any wH.heap.size wH.heap.size k a0 c0 f ⟨pa + ec, (vv : Int)⟩ _ hD10.out.heap (by omega))
                  obtain ⟨q1, q2⟩ := push_ok popLt_ord hok.out ⟨pa + ec, (vv : Int)⟩
                  have hvu : vv ≠ u := by
                    rintro rfl
                    rw [hdu.out] at hgv
                    omega
                  have hI10 := hI9.give (List.mem_map.2 ⟨es[i], List.getElem_mem hi2, by rw [e2.out, hi3.out, hec.out]; simp⟩) e4 hSt.out hdu.out e7 hgv q2
                  have hdu2 := hide (show upz d vv (pa + ec) u = pa by rw [upz_other _ _ hvu.symm]; exact hdu.out)
                  replace hI10 := hide hI10
                  replace q1 := hide q1
                  clear q2 hI9
                  generalize siftUp popLt (upz f k ⟨pa + ec, (vv : Int)⟩) k = f3 at hPush q1 hI10
                  replace hX' := hide hX'
                  replace hb9 := hide hb9
                  replace xa9 := hide xa9
                  replace xb9 := hide xb9
                  replace hvu := hide hvu
                  go_wp2_with fail
                  refine hPush.out.mono ?_
                  rintro e w6 ⟨rfl, gs6, c6, hA6, hK6, hg6⟩
                  have hD11 := hide (hD10.out.kept hK6 (fun j hj => by
                    rcases hj with rfl | hj
                    · exact Nat.le_refl _
                    · exact (hD10.out.heap.own.block_lt j hj).1) hA6)
                  have hX6 : ¬ (fun k_1 => k_1 = wH.heap.size ∨ (Value.slice a0 k c0).ownBlock = some k_1) w5.heap.size := fun h => by
                    rcases h with h | h
                    · omega
                    · exact hX'.out h
                  have xa6 := hK6.cu xa10.out hX6
                  have xb6 := hK6.cu xb10.out hX6
                  have hX7 := hide (show (Value.slice (some ⟨gs6, 0, none⟩) (k + 1) c6).ownBlock ≠ some w5.heap.size from fun h => by
                    simp only [Value.ownBlock, Option.some.injEq] at h
                    subst h
                    rcases hg6 with h | h
                    · exact hX'.out h
                    · simp at h; omega)
                  clear hX6 hA6 hK6 hg6 hPush hD10 xa10 xb10
                  go_wp2
                  go_roundw
                  case rel => exact ⟨j + 1, _, k + 1, _, _, f3, by omega, by go_num, hD11, hI10, q1, hdu2, by omega, xa6, xb6, hX7⟩
                  case measure => simp [intOf]; omega
                · have hI10 := hide (hI9.stay hdu.out hgv)
                  clear hI9
                  replace hb9 := hide hb9
                  replace xa9 := hide xa9
                  replace xb9 := hide xb9
                  replace hX' := hide hX'
                  go_wp2
                  go_roundw
                  case rel => exact ⟨j + 1, d, k, a0, c0, f, by omega, by go_num, hD9, hI10, hok, hdu, by omega, xa9.out, xb9.out, hX⟩
                  case measure => simp [intOf]; omega
              · obtain rfl : L = j := by omega
                have hI10 := hI.out
                rw [hL.out, todo_end] at hI10
                replace hI10 := hide hI10
                go_wp2
                go_roundg (gk - 1)
                case measure => omega
                case rel => exact ⟨d, S', pa, k, a0, c0, f, hD, hI10, hok, by omega, by omega⟩
theorem right_wide {n : Nat} {es : List Ed} (h : Right n es) : RightK 9000000 n es := fun e he => by have := h e he; omega
theorem run_any (n : Nat) (a : Option Addr) (cap : Nat) (es : List Ed) (v : Nat) (w : World) (B : Nat) (hB : B ≤ w.heap.size) (hE : Row encE 3 w B a es) (hn1 : 1 ≤ n) (hn : n ≤ 64) (hl : es.length ≤ 600) (hes : Right n es) (hpos : ∀ e ∈ es, 1 ≤ e.c) (hv : v < n) :
    Calls Try.prog 87 #[.agg #[.int .i64 (n : Int), .slice a es.length cap], .int .i64 (v : Int)] w (OwnBack encI 1 3 (LI n (distF n es v)) n w) :=
  run_gen n a cap es v w B hB hE hn1 hn (by omega) (right_wide hes) (fun e he => by have := hpos e he; omega) hv
end Go.Proofs.Ytcehdpeeaogpiaa
