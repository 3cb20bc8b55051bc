/-
  A part of the proof of ServePlays: Start DijkW DDist Way WayOk Begun TsW
-/
import Derived.Test.YtccailcjclbhlaaTopServiceA6
import Derived.Test.YtccailcjclbhlaaTopServiceA15
import Derived.Test.YtccailcjclbhlaaTopServiceA4
import Derived.Deep.LoopGhost
import Derived.Test.YtccailcjclbhlaaTopServiceA5
import Derived.Deep.RegionLaw
import Derived.BigQuiet
import Derived.Deep.QuietTactic
/-! What the reference's Start and Dist return: costs from one place. Conditions: a right net, a place of it. -/
namespace Go.Proofs.Ytccailcjclbhlaa
open Go.RowKit
set_option linter.unusedSimpArgs false
set_option linter.unusedVariables false
theorem stF_upz (v : Nat) : upz (fun _ => FAR) v 0 = stF v := by
  funext u; simp [upz, stF]
/-- costs from v, round by round -/
def distF (n : Nat) (es : List Ed) (v : Nat) : Nat → Int := spread (nes es) (stF v) (n - 1)
end Go.Proofs.Ytccailcjclbhlaa
/-! What dijk.Run returns: the costs from a place. Conditions: a right net, costs above 0. -/
namespace Go.Proofs.Ytccailcjclbhlaa
open Go.RowKit
set_option linter.unusedSimpArgs false
set_option linter.unusedVariables false
/-- what holds while Run runs: wH is the world ahead of the heap, D the block of the costs -/
structure DW (w wH : World) (n : Nat) (d : Nat → Int) (v : Value) (k : Nat) (f : Nat → P2) (wr : World) : Prop where
  dist : Own encI 1 3 wr w.heap.size (.slice (some ⟨w.heap.size + 1, 0, none⟩) n n) (LI n d)
  heap : HeapAt wr wH.heap.size wH.heap.size (.func (.func 41) #[] #[]) v k f
  keep : Keep (fun k => k = w.heap.size + 1) wH wr
  low : w.heap.size + 1 < wH.heap.size
section
variable {w wH wr w' : World} {n k : Nat} {d : Nat → Int} {v : Value} {f : Nat → P2}
theorem DW.stays (h : DW w wH n d v k f wr) (b : Below wr.heap.size wr w') : DW w wH n d v k f w' :=
  ⟨h.dist.stays b, h.heap.stays b, h.keep.trans (Keep.new b), h.low⟩
theorem DW.kept (h : DW w wH n d v k f wr) {T : Nat → Prop} (kp : Keep T wr w') (hT : ∀ k, T k → wH.heap.size ≤ k) {v' : Value} {k' : Nat} {f' : Nat → P2} (hh : HeapAt w' wH.heap.size wH.heap.size (.func (.func 41) #[] #[]) v' k' f') : DW w wH n d v' k' f' w' :=
  ⟨kp.own h.dist (fun j hj hT2 => by have := hT j hT2; have := h.low; simp [Value.ownBlock] at hj; omega), hh, h.keep.trans2 kp (fun k hk => .inr (hT k hk)), h.low⟩
theorem DW.push (h : DW w wH n d v k f wr) {k' : Nat} {f' : Nat → P2} (hp : Heaped wr wH.heap.size wH.heap.size (.func (.func 41) #[] #[]) v k' f' w') : ∃ gs c, DW w wH n d (.slice (some ⟨gs, 0, none⟩) k' c) k' f' w' ∧ (v.ownBlock = some gs ∨ wr.heap.size ≤ gs) := by
  obtain ⟨gs, c, h1, h2, h3⟩ := hp
  refine ⟨gs, c, h.kept h2 (fun j hj => ?_) h1, h3⟩
  rcases hj with rfl | hj
  · exact Nat.le_refl _
  · exact (h.heap.own.block_lt j hj).1
theorem DW.setD (h : DW w wH n d v k f wr) (u : Nat) (hu : u < n) (x : Int) : DW w wH n (upz d u x) v k f (wr.setCell ⟨w.heap.size + 1, u, none⟩ (.int .i64 x)) := by
  have kp := (Keep.refl (fun k => k = w.heap.size + 1) wr).setCell (p := ⟨w.heap.size + 1, u, none⟩) (.inl rfl) (.int .i64 x)
  have hl := h.low
  refine ⟨h.dist.setI u hu x, h.heap.keep kp (by omega) (fun j hj => ?_), h.keep.setCell (.inl rfl) _, h.low⟩
  have := (h.heap.own.block_lt j hj).1
  omega
end
set_option maxRecDepth 100000 in
set_option maxHeartbeats 4000000 in
theorem run_gen (n : Nat) (a : Option Addr) (cap : Nat) (es : List Ed) (v : Nat) (w : World) (B : Nat) (hB : B ≤ w.heap.size) (hE : Row encE 3 w B a es) (hn1 : 1 ≤ n) (hn : n ≤ 64) (hl : es.length ≤ 9000) (hes : RightK 9000000 n es) (hpos : ∀ e ∈ es, 0 ≤ e.c) (hv : v < n) :
    Calls Try.prog 26 #[.agg #[.int .i64 (n : Int), .slice a es.length cap], .int .i64 (v : Int)] w (OwnBack encI 1 3 (LI n (distF n es v)) n w) := by
  replace hE := hide hE
  replace hes := hide hes
  replace hpos := hide hpos
  go_enter Try.func26, Try.ntmps26
  go_wp2_with (at_make; (refine wpList_mk (e := 3) (enc := encI) rfl (.tmp 15) 22 rfl (.int .i64 0) 8 (0 : Int) Try.underlying22 info_int rfl rfl (n) ?e11 ?e21 ?e31 (w.heap.size) ?e41 ?_); (case e11 => rfl); (case e21 => omega); (case e31 => unfold maxLen; omega); (case e41 => first | omega | (simp; done) | (simp; omega)); intro w1 own1 hb1 hsz1; replace own1 := hide own1; replace hb1 := hide hb1)
  have own2 : Hid (Own encI 1 3 w1 w.heap.size (.slice (some ⟨w.heap.size + 1, 0, none⟩) n n) (List.replicate n 0)) := by
    have h := own1.out
    simp only [World.size_alloc] at h
    exact hide h
  have hbw1 : Below (w.heap.size + 1) (w.alloc (.cells #[.int .i64 (n : Int), .slice a es.length cap] 41)) w1 := by
    have h := hb1.out
    simp only [World.size_alloc] at h
    exact h
  have k0 : w1.cell? ⟨w.heap.size, 0, none⟩ = some (.int .i64 (n : Int)) := cu_below hbw1 (by simp [go_sem]) (by simp)
  have k1 : w1.cell? ⟨w.heap.size, 1, none⟩ = some (.slice a es.length cap) := cu_below hbw1 (by simp [go_sem]) (by simp)
  have hB1 := hide (unalloc (hbw1.mono (by omega)) (Nat.le_refl _) : Below w.heap.size w w1)
  clear own1 hb1 hbw1 hsz1
  go_loopw [6, 19] (fun _ i wr => ∃ (k : Nat), k ≤ n ∧ i = .int .i64 k ∧ Hid (Own encI 1 3 wr w.heap.size (.slice (some ⟨w.heap.size + 1, 0, none⟩) n n) (LI n (first k (fun _ => FAR) (fun _ => 0)))) ∧ wr.cell? ⟨w.heap.size, 0, none⟩ = some (.int .i64 (n : Int)) ∧ wr.cell? ⟨w.heap.size, 1, none⟩ = some (.slice a es.length cap) ∧ Hid (Below w.heap.size w wr)) (fun _ i _ => n - (intOf i).toNat)
  case atStart => exact ⟨0, Nat.zero_le _, rfl, by rw [first_zero, ← li_rep]; exact own2, k0, k1, hB1⟩
  case round =>
    obtain ⟨k, hk, rfl, own, k2, k3, hb⟩ := hrel
    have hfr := own.out.free
    have hgs := own.out.at_base
    clear k0 k1 own2 hB1
    by_cases hlt : k < n
    · have c0 := own.out.atI k hlt
      have own2 := own.out.setI k hlt FAR
      rw [first_step k (fun _ => FAR) (fun _ => 0)] at own2
      replace own2 := hide own2
      go_wp2
      go_roundw
      case rel => exact ⟨k + 1, by omega, by go_num, own2, cu_set k2 (by simp), cu_set k3 (by simp), hide (hb.out.setCell (by simp) _)⟩
      case measure => simp [intOf]; omega
    · obtain rfl : n = k := by omega
      have own3 := own.out
      rw [first_all] at own3
      have c0 := own3.atI v hv
      have own4 := own3.setI v hv 0
      rw [stF_upz] at own4
      replace own4 := hide own4
      clear own3 own
      have i1 : (0 : Int) ≤ (v : Int) ∧ (v : Int) < (n : Int) := by omega
      have k4 : (wr.setCell ⟨w.heap.size + 1, v, none⟩ (.int .i64 0)).cell? ⟨w.heap.size, 0, none⟩ = some (.int .i64 (n : Int)) := cu_set k2 (by simp)
      have k5 : (wr.setCell ⟨w.heap.size + 1, v, none⟩ (.int .i64 0)).cell? ⟨w.heap.size, 1, none⟩ = some (.slice a es.length cap) := cu_set k3 (by simp)
      have hbA := hide (hb.out.setCell (p := ⟨w.heap.size + 1, v, none⟩) (by simp) (.int .i64 0))
      go_wp2_with fail
      generalize wr.setCell ⟨w.heap.size + 1, v, none⟩ (.int .i64 0) = wa at own4 k4 k5 hbA ⊢
      clear k2 k3 hfr hgs hk hb c0
      refine (outs_any n a cap es wa B (by have := hbA.out.size; omega) (hE.out.below hbA.out hB) hn hl (fun e he => by have := hes.out e he; omega)).mono ?_
      rintro e wH ⟨O, rfl, oOwn, hbH⟩
      have hB2 := hide (hbA.out.trans (hbH.mono hbA.out.size))
      have own5 := hide (own4.out.stays hbH)
      have hla : w.heap.size + 1 < wa.heap.size := own4.out.at_base.2
      have k6 := hide (cu_below hbH k4 (cell_lt k4))
      have k7 := hide (cu_below hbH k5 (cell_lt k5))
      have hlH : wa.heap.size ≤ wH.heap.size := hbH.size
      replace oOwn := hide oOwn
      clear k4 k5 own4 hbH hbA hlt
      go_wp2_with fail
      refine (new_any 41 wH).mono ?_
      rintro e w3 ⟨rfl, hw3⟩
      have hfr := HeapAt.fresh wH (.func (.func 41) #[] #[]) (fun _ => ⟨0, 0⟩) 125
      rw [← hw3] at hfr
      have hbN : Below wH.heap.size wH w3 := by rw [hw3]; exact (Below.refl _ _).alloc (Nat.le_refl _) _
      have hD0 : DW w wH n (stF v) (.slice none 0 0) 0 (fun _ => ⟨0, 0⟩) w3 := ⟨own5.out.stays hbN, hfr, Keep.new hbN, by omega⟩
      replace hD0 := hide hD0
      replace hfr := hide hfr
      clear hbN own5
      replace hw3 := hide hw3
      go_wp2_with fail
      refine (push_any wH.heap.size wH.heap.size 0 none 0 (fun _ => ⟨0, 0⟩) ⟨0, (v : Int)⟩ w3 hfr.out (by omega)).mono ?_
      rintro e w4 ⟨rfl, hP⟩
      rw [siftUp_top] at hP
      obtain ⟨gs, c, hD1, _⟩ := hD0.out.push hP
      have hI := hide (DInv.start (n := n) (E := nes es) (s := stF v) v hv (by simp [stF]) (fun u hu => by simp [stF, hu]))
      have hl1 : RW (0 + 1) (upz (fun _ => (⟨0, 0⟩ : P2)) 0 ⟨0, (v : Int)⟩) = [⟨0, (v : Int)⟩] := by rw [rw_push]; rfl
      rw [← hl1] at hI
      have hok := hide (show HeapOK popLt (0 + 1) (upz (fun _ => (⟨0, 0⟩ : P2)) 0 ⟨0, (v : Int)⟩) from fun i h1 h2 => by omega)
      have hrs := rest_le (nes es) (fun _ => false)
      have hnl : (nes es).length = es.length := by simp [nes]
      replace hD1 := hide hD1
      generalize upz (fun _ => (⟨0, 0⟩ : P2)) 0 ⟨0, (v : Int)⟩ = f1 at hI hok hD1
      clear hP hD0 hfr hl1 hw3
      go_wp2_with fail
      go_loopg [] 9001 (fun gk wr => ∃ (d : Nat → Int) (S : Nat → Bool) (m : Int) (k : Nat) (a0 : Option Addr) (c0 : Nat) (f : Nat → P2), Hid (DW w wH n d (.slice a0 k c0) k f wr) ∧ Hid (DInv n (nes es) (stF v) S m [] d (RW k f)) ∧ Hid (HeapOK popLt k f) ∧ k + rest (nes es) S ≤ gk ∧ gk ≤ 9001)
      case atStart => exact ⟨_, _, _, _, _, _, _, hD1, hI, hok, by omega, by omega⟩
      case round =>
        clear hD1 hI hok hrs hnl
        obtain ⟨d, S, m, k, a0, c0, f, hD, hI, hok, hkr, hgk⟩ := hrel
        have hc1 := hD.out.heap.c1
        by_cases hk0 : k = 0
        · subst hk0
          go_wp2_with fail
          refine (len_any _ _ _ _ _ hc1).mono ?_
          rintro e w5 ⟨rfl, rfl⟩
          go_wp2
          go_ret
          have hI0 : DInv n (nes es) (stF v) S m [] d [] := hI.out
          refine ⟨_, _, rfl, ?_, hB2.out.trans (hD.out.keep.toBelow (fun j hj => by omega) hB2.out.size)⟩
          have e1 : LI n (distF n es v) = LI n d := li_congr (fun u hu => hI0.done hn1 (nes_rightK hes.out) (stF_far v) u hu)
          rw [e1]
          exact hD.out.dist
        · obtain ⟨q, rfl⟩ : ∃ q, k = q + 1 := ⟨k - 1, by omega⟩
          obtain ⟨gs, rfl, hgs1, hgs2⟩ := hD.out.heap.own.blockI' (by omega)
          have hq : (0 : Int) < ((q + 1 : Nat) : Int) := by omega
          have hent := hI.out.ent (f 0) (by rw [RW]; exact List.mem_map.2 ⟨0, by simp, rfl⟩)
          obtain ⟨u, hu⟩ := Int.eq_ofNat_of_zero_le hent.1
          have hun : u < n := by omega
          obtain ⟨pa, hpa⟩ : ∃ pa, pa = (f 0).a := ⟨_, rfl⟩
          have hf0 : f 0 = ⟨pa, (u : Int)⟩ := by rw [hpa, ← hu]
          rw [hf0] at hent
          simp only [Int.toNat_natCast] at hent
          have hPop := pop_any wH.heap.size wH.heap.size q gs c0 f _ hD.out.heap (by omega)
          obtain ⟨p1, p2⟩ := pop_ok popLt_ord hok.out
          have hmin := hide (fun i hi => heap_top popLt_ord hok.out i hi)
          rw [hf0] at hPop p2 hmin
          replace hPop := hide hPop
          replace p1 := hide p1
          replace p2 := hide p2
          have hDk := hide (fun w' f' h1 h2 => hD.out.kept (w' := w') (T := fun k => k = wH.heap.size ∨ k = gs) h1 (fun j hj => by rcases hj with rfl | rfl; exact Nat.le_refl _; exact hgs1) (v' := .slice (some ⟨gs, 0, none⟩) q c0) (k' := q) (f' := f') h2)
          generalize siftDown popLt q (upz f 0 (f q)) 0 = f2 at hPop p1 p2
          clear hf0
          replace hpa := hide hpa
          replace hu := hide hu
          go_wp2_with fail
          refine (len_any _ _ _ _ _ hc1).mono ?_
          rintro e w5 ⟨rfl, rfl⟩
          go_wp2_with fail
          refine hPop.out.mono ?_
          rintro e w5 ⟨rfl, hA5, hK5⟩
          have hD5 := hide (hDk.out _ _ hK5 hA5)
          clear hPop hDk hA5 hK5 hc1 hq
          have cD := hD5.out.dist.atI u hun
          have hl5 : w.heap.size + 1 < w5.heap.size := hD5.out.dist.at_base.2
          have iu : (0 : Int) ≤ (u : Int) ∧ (u : Int) < (n : Int) := by omega
          rcases Int.lt_or_le (d u) pa with hgt | hle
          · go_wp2
            go_quiet (fail)
            have hD6 := hide (hD5.out.stays (w' := (w5.alloc (.cells #[.int .i64 pa, .int .i64 (u : Int)] 111)).drewN nq) (up_drewN (up_alloc (Below.refl _ _) (Nat.le_refl _))))
            have hI6 := hide (hI.out.drop p2.out (by simpa using hgt))
            go_wp2
            go_roundg (gk - 1)
            case measure => omega
            case rel => exact ⟨d, S, m, q, _, _, f2, hD6, hI6, p1, by omega, by omega⟩
          · have hul : u < (outRows n es es.length).length := by rw [outRows_len]; exact hun
            obtain ⟨av, cv, r0, rown, _⟩ := oOwn.out.at u hul
            rw [outRows_get] at r0 rown
            obtain ⟨L, hL⟩ : ∃ L, L = (outIdx es u es.length).length := ⟨_, rfl⟩
            rw [← hL] at r0 rown
            have hLl : L ≤ es.length := by rw [hL]; exact outIdx_len es u es.length
            have hO : wa.heap.size ≤ O ∧ O < wH.heap.size := by obtain ⟨vs, _, h2, _⟩ := oOwn.out; exact h2.at_base
            obtain ⟨hk1, hSu, _, hI6⟩ := hI.out.look (todo := todoOf es u 0) p2.out rfl hle (fun x hx => by
              obtain ⟨i, hi, rfl⟩ := List.mem_map.1 (p2.out.mem_iff.1 (List.mem_cons_of_mem _ hx))
              have h1 := hmin.out i (List.mem_range.1 hi)
              simp only [popLt, Bool.or_eq_false_iff, decide_eq_false_iff_not] at h1
              exact Int.not_lt.1 h1.1) (todo_all hes.out u)
            have hrm := rest_mark (E := nes es) hSu
            rw [← todo_len hes.out u, ← hL] at hrm
            have hSt : upz S u true u = true := upz_same _ _ _
            replace hI6 := hide hI6
            replace hSt := hide hSt
            replace hrm := hide hrm
            replace hL := hide hL
            obtain ⟨S', hS'⟩ : ∃ S', S' = upz S u true := ⟨_, rfl⟩
            rw [← hS'] at hI6 hSt hrm
            have hgk2 : q + L + rest (nes es) S' + 1 ≤ gk := by have := hrm.out; omega
            replace hS' := hide hS'
            replace hk1 := hide hk1
            replace rown := hide rown
            have r1 := hD5.out.keep.cu r0 (by simp; omega)
            have hOl : O < w5.heap.size := cell_lt r1
            have r2 : ∀ o, (w5.alloc (.cells #[.int .i64 pa, .int .i64 (u : Int)] o)).cell? ⟨O, u, none⟩ = some (.slice av L cv) := fun o => cu_alloc r1
            go_wp2
            go_quiet (fail)
            have hb6 : Below w5.heap.size w5 ((w5.alloc (.cells #[.int .i64 pa, .int .i64 (u : Int)] 111)).drewN nq) := up_drewN (up_alloc (Below.refl _ _) (Nat.le_refl _))
            have hD6 := hide (hD5.out.stays hb6)
            have xa : ((w5.alloc (.cells #[.int .i64 pa, .int .i64 (u : Int)] 111)).drewN nq).cell? ⟨w5.heap.size, 0, none⟩ = some (.int .i64 pa) := cu_drewN (by simp [go_sem])
            have xb : ((w5.alloc (.cells #[.int .i64 pa, .int .i64 (u : Int)] 111)).drewN nq).cell? ⟨w5.heap.size, 1, none⟩ = some (.int .i64 (u : Int)) := cu_drewN (by simp [go_sem])
            have r3 : ((w5.alloc (.cells #[.int .i64 pa, .int .i64 (u : Int)] 111)).drewN nq).cell? ⟨O, u, none⟩ = some (.slice av L cv) := cu_drewN (cu_alloc r1)
            have hgsX : gs < w5.heap.size := hD5.out.heap.own.at_base.2
            have hgH : wH.heap.size < w5.heap.size := hD5.out.heap.lt
            clear r2 r0 cD hb6 hD hI hok hpa hu hmin hent p2 hkr
            generalize ((w5.alloc (.cells #[.int .i64 pa, .int .i64 (u : Int)] 111)).drewN nq) = wx at hD6 xa xb r3 ⊢
            have hOx : O < wx.heap.size := cell_lt r3
            replace hgs1 := hide hgs1
            go_wp2
            clear hle
            go_loopw [55] (fun i wr => ∃ (j : Nat) (d : Nat → Int) (k : Nat) (a0 : Option Addr) (c0 : Nat) (f : Nat → P2), j ≤ L ∧ i = .int .i64 j ∧ Hid (DW w wH n d (.slice a0 k c0) k f wr) ∧ Hid (DInv n (nes es) (stF v) S' pa (todoOf es u j) d (RW k f)) ∧ Hid (HeapOK popLt k f) ∧ Hid (d u = pa) ∧ k + (L - j) + rest (nes es) S' + 1 ≤ gk ∧ wr.cell? ⟨w5.heap.size, 0, none⟩ = some (.int .i64 pa) ∧ wr.cell? ⟨w5.heap.size, 1, none⟩ = some (.int .i64 (u : Int)) ∧ Hid ((Value.slice a0 k c0).ownBlock ≠ some w5.heap.size)) (fun i _ => L - (intOf i).toNat)
            case atStart => exact ⟨0, d, q, _, _, f2, Nat.zero_le _, rfl, hD6, hI6, p1, hide hk1.out.symm, by omega, xa, xb, hide (by simp [Value.ownBlock]; omega)⟩
            case round =>
              clear hD6 hI6 p1 hk1 hD5 xa xb r3
              obtain ⟨j, d, k, a0, c0, f, hj, rfl, hD, hI, hok, hdu, hkr, xa, xb, hX⟩ := hrel
              have hXl : w5.heap.size < wr.heap.size := cell_lt xa
              by_cases hlt : j < L
              · have hjl : j < (outIdx es u es.length).length := by rw [← hL.out]; exact hlt
                obtain ⟨i, hi1, hi2, hi3⟩ := outIdx_get es u j hjl
                obtain ⟨u2, vv, e1, e2, e3, e4, e5, e6, -⟩ := right_edgeK hes.out i hi2
                have e7 := hpos.out es[i] (List.getElem_mem hi2)
                have htd := todo_step hjl hi1 hi2 hi3 e2
                obtain ⟨gr, rfl, hgr1, hgr2⟩ := rown.out.blockI' (by omega)
                have rc := rown.out.getI j hjl
                rw [hi1] at rc
                have rc2 := hD.out.keep.cu rc (by simp; omega)
                have hbw : Below w.heap.size w wr := hB2.out.trans (hD.out.keep.toBelow (fun j hj => by omega) hB2.out.size)
                have k8 := hD.out.keep.cu k7.out (by simp)
                have k9 := cell_lt k8
                obtain ⟨b, o, rfl, hbB, c1, c2, c3⟩ := hE.out.ed i hi2
                have hbw2 : b < w.heap.size := by omega
                have c1 := cu_below hbw c1 hbw2
                have c2 := cu_below hbw c2 hbw2
                have c3 := cu_below hbw c3 hbw2
                rw [e1] at c1
                rw [e2] at c2
                have hbr : b < wr.heap.size := cell_lt c1
                have cD := hD.out.dist.atI vv e4
                have fD := hD.out.dist.free vv
                have hl7 : w.heap.size + 1 < wr.heap.size := hD.out.dist.at_base.2
                obtain ⟨ec, hec⟩ : ∃ ec, ec = es[i].c := ⟨_, rfl⟩
                rw [← hec] at c3 e5 e6 e7 htd
                have ij : (0 : Int) ≤ (j : Int) ∧ (j : Int) < (L : Int) := by omega
                have ii : (0 : Int) ≤ (i : Int) ∧ (i : Int) < (es.length : Int) := by omega
                have iv : (0 : Int) ≤ (vv : Int) ∧ (vv : Int) < (n : Int) := by omega
                have hgrl : gr < wr.heap.size := cell_lt rc2
                have hpaF := hI.out.far u
                rw [hdu.out] at hpaF
                unfold FAR at hpaF
                have hpa0 := hI.out.pos u
                rw [hdu.out] at hpa0
                replace e1 := hide e1
                replace e2 := hide e2
                replace hec := hide hec
                replace htd := hide htd
                replace hi1 := hide hi1
                replace hi3 := hide hi3
                replace hbw := hide hbw
                clear rc
                have hX' := hX.out
                have hb9 : Below wr.heap.size wr (wr.alloc (.cells #[.int .i64 (u2 : Int), .int .i64 (vv : Int), .int .i64 ec] 69)) := (Below.refl _ _).alloc (Nat.le_refl _) _
                have hD9 := hide (hD.out.stays hb9)
                have xa9 := cu_below hb9 xa hXl
                have xb9 := cu_below hb9 xb hXl
                have hI9 := hI.out
                rw [htd.out] at hI9
                by_cases hgv : pa + ec < d vv
                · have hpl : k < n + 9100 := by omega
                  have hD10 := hide ((hD.out.setD vv e4 (pa + ec)).stays ((Below.refl _ _).alloc (Nat.le_refl _) (.cells #[.int .i64 (u2 : Int), .int .i64 (vv : Int), .int .i64 ec] 69)))
                  have xa10 : ((wr.setCell ⟨w.heap.size + 1, vv, none⟩ (.int .i64 (pa + ec))).alloc (.cells #[.int .i64 (u2 : Int), .int .i64 (vv : Int), .int .i64 ec] 69)).cell? ⟨w5.heap.size, 0, none⟩ = some (.int .i64 pa) := cu_alloc (cu_set xa (by simp; omega))
                  have xb10 : ((wr.setCell ⟨w.heap.size + 1, vv, none⟩ (.int .i64 (pa + ec))).alloc (.cells #[.int .i64 (u2 : Int), .int .i64 (vv : Int), .int .i64 ec] 69)).cell? ⟨w5.heap.size, 1, none⟩ = some (.int .i64 (u : Int)) := cu_alloc (cu_set xb (by simp; omega))
                  replace xa10 := hide xa10
                  replace xb10 := hide xb10
                  have hPush := hide (push_any wH.heap.size wH.heap.size k a0 c0 f ⟨pa + ec, (vv : Int)⟩ _ hD10.out.heap (by omega))
                  obtain ⟨q1, q2⟩ := push_ok popLt_ord hok.out ⟨pa + ec, (vv : Int)⟩
                  have hvu : vv ≠ u := by
                    rintro rfl
                    rw [hdu.out] at hgv
                    omega
                  have hI10 := hI9.give (List.mem_map.2 ⟨es[i], List.getElem_mem hi2, by rw [e2.out, hi3.out, hec.out]; simp⟩) e4 hSt.out hdu.out e7 hgv q2
                  have hdu2 := hide (show upz d vv (pa + ec) u = pa by rw [upz_other _ _ hvu.symm]; exact hdu.out)
                  replace hI10 := hide hI10
                  replace q1 := hide q1
                  clear q2 hI9
                  generalize siftUp popLt (upz f k ⟨pa + ec, (vv : Int)⟩) k = f3 at hPush q1 hI10
                  replace hX' := hide hX'
                  replace hb9 := hide hb9
                  replace xa9 := hide xa9
                  replace xb9 := hide xb9
                  replace hvu := hide hvu
                  go_wp2_with fail
                  refine hPush.out.mono ?_
                  rintro e w6 ⟨rfl, gs6, c6, hA6, hK6, hg6⟩
                  have hD11 := hide (hD10.out.kept hK6 (fun j hj => by
                    rcases hj with rfl | hj
                    · exact Nat.le_refl _
                    · exact (hD10.out.heap.own.block_lt j hj).1) hA6)
                  have hX6 : ¬ (fun k_1 => k_1 = wH.heap.size ∨ (Value.slice a0 k c0).ownBlock = some k_1) w5.heap.size := fun h => by
                    rcases h with h | h
                    · omega
                    · exact hX'.out h
                  have xa6 := hK6.cu xa10.out hX6
                  have xb6 := hK6.cu xb10.out hX6
                  have hX7 := hide (show (Value.slice (some ⟨gs6, 0, none⟩) (k + 1) c6).ownBlock ≠ some w5.heap.size from fun h => by
                    simp only [Value.ownBlock, Option.some.injEq] at h
                    subst h
                    rcases hg6 with h | h
                    · exact hX'.out h
                    · simp at h; omega)
                  clear hX6 hA6 hK6 hg6 hPush hD10 xa10 xb10
                  go_wp2
                  go_roundw
                  case rel => exact ⟨j + 1, _, k + 1, _, _, f3, by omega, by go_num, hD11, hI10, q1, hdu2, by omega, xa6, xb6, hX7⟩
                  case measure => simp [intOf]; omega
                · have hI10 := hide (hI9.stay hdu.out hgv)
                  clear hI9
                  replace hb9 := hide hb9
                  replace xa9 := hide xa9
                  replace xb9 := hide xb9
                  replace hX' := hide hX'
                  go_wp2
                  go_roundw
                  case rel => exact ⟨j + 1, d, k, a0, c0, f, by omega, by go_num, hD9, hI10, hok, hdu, by omega, xa9.out, xb9.out, hX⟩
                  case measure => simp [intOf]; omega
              · obtain rfl : L = j := by omega
                have hI10 := hI.out
                rw [hL.out, todo_end] at hI10
                replace hI10 := hide hI10
                go_wp2
                go_roundg (gk - 1)
                case measure => omega
                case rel => exact ⟨d, S', pa, k, a0, c0, f, hD, hI10, hok, by omega, by omega⟩
theorem right_wide {n : Nat} {es : List Ed} (h : Right n es) : RightK 9000000 n es := fun e he => by have := h e he; omega
theorem run_any (n : Nat) (a : Option Addr) (cap : Nat) (es : List Ed) (v : Nat) (w : World) (B : Nat) (hB : B ≤ w.heap.size) (hE : Row encE 3 w B a es) (hn1 : 1 ≤ n) (hn : n ≤ 64) (hl : es.length ≤ 600) (hes : Right n es) (hpos : ∀ e ∈ es, 1 ≤ e.c) (hv : v < n) :
    Calls Try.prog 26 #[.agg #[.int .i64 (n : Int), .slice a es.length cap], .int .i64 (v : Int)] w (OwnBack encI 1 3 (LI n (distF n es v)) n w) :=
  run_gen n a cap es v w B hB hE hn1 hn (by omega) (right_wide hes) (fun e he => by have := hpos e he; omega) hv
end Go.Proofs.Ytccailcjclbhlaa
/-! What dijk.Way returns. Conditions: that the slices read. -/
namespace Go.Proofs.Ytccailcjclbhlaa
open Go.RowKit
set_option linter.unusedSimpArgs false
set_option linter.unusedVariables false
/-- a walk, its cost and an error handed back -/
def WayBack (xs : List Int) (m : Nat) (cost err : Int) (w : World) (e : Ending) (w' : World) : Prop := ∃ a c, e = .returned (.tuple #[.agg #[.slice a m c, .int .i64 cost], .int .i64 err]) ∧ Row encI 1 w' w'.heap.size a xs ∧ Below w.heap.size w w'
/-- what holds behind dijk.Run in Way -/
structure WyI (w : World) (n : Nat) (a : Option Addr) (m cap : Nat) (D : Nat) (d : Nat → Int) (wr : World) : Prop where
  b0 : wr.cell? ⟨w.heap.size, 0, none⟩ = some (.int .i64 (n : Int))
  b1 : wr.cell? ⟨w.heap.size, 1, none⟩ = some (.slice a m cap)
  r0 : wr.cell? ⟨w.heap.size + 1, 0, none⟩ = some (.slice none 0 0)
  r1 : wr.cell? ⟨w.heap.size + 1, 1, none⟩ = some (.int .i64 0)
  f0 : wr.frozen? ⟨w.heap.size + 1, 0, none⟩ = false
  f1 : wr.frozen? ⟨w.heap.size + 1, 1, none⟩ = false
  dist : ∀ u, u < n → wr.cell? ⟨D, u, none⟩ = some (.int .i64 (d u))
  dlt : D < wr.heap.size
  bel : Below w.heap.size w wr
theorem WyI.stays {w wr w' : World} {n m cap D : Nat} {a : Option Addr} {d : Nat → Int} (h : WyI w n a m cap D d wr) (b : Below wr.heap.size wr w') : WyI w n a m cap D d w' :=
  ⟨cu_below b h.b0 (cell_lt h.b0), cu_below b h.b1 (cell_lt h.b1), cu_below b h.r0 (cell_lt h.r0), cu_below b h.r1 (cell_lt h.r1), fu_below b h.f0 (cell_lt h.r0), fu_below b h.f1 (cell_lt h.r1), fun u hu => cu_below b (h.dist u hu) h.dlt, Nat.lt_of_lt_of_le h.dlt b.size, h.bel.trans (b.mono h.bel.size)⟩
theorem WyI.kept {w wr w' : World} {n m cap D B : Nat} {a : Option Addr} {d : Nat → Int} (h : WyI w n a m cap D d wr) (b : Below B wr w') (hD : D < B) (hw : w.heap.size + 1 < B) : WyI w n a m cap D d w' :=
  ⟨cu_below b h.b0 (by simp; omega), cu_below b h.b1 (by simp; omega), cu_below b h.r0 (by simp; omega), cu_below b h.r1 (by simp; omega), fu_below b h.f0 (by simp; omega), fu_below b h.f1 (by simp; omega), fun u hu => cu_below b (h.dist u hu) hD, Nat.lt_of_lt_of_le h.dlt b.size, h.bel.trans (b.mono (by omega))⟩
end Go.Proofs.Ytccailcjclbhlaa
/-! What dijk.Way returns where there is a walk. Conditions: that the slices read. -/
namespace Go.Proofs.Ytccailcjclbhlaa
open Go.RowKit
set_option linter.unusedSimpArgs false
set_option linter.unusedVariables false
/-- the place before, over the first edges -/
def pvK (n : Nat) (es : List Ed) (d : Nat → Int) (v k : Nat) : Nat := prevF n (nes (es.take k)) d v
theorem pvK_zero (n : Nat) (es : List Ed) (d : Nat → Int) (v : Nat) : pvK n es d v 0 = n := by simp [pvK, prevF, nes]
theorem pvK_all (n : Nat) (es : List Ed) (d : Nat → Int) (v : Nat) : pvK n es d v es.length = prevF n (nes es) d v := by simp [pvK]
theorem pvK_succ {n : Nat} {es : List Ed} {d : Nat → Int} {v k x y : Nat} {c : Int} (h : nes (es.take (k + 1)) = nes (es.take k) ++ [⟨x, y, c⟩]) : pvK n es d v (k + 1) = if y = v ∧ d x + c = d v then min (pvK n es d v k) x else pvK n es d v k := by
  unfold pvK prevF
  rw [h, List.foldl_append]
  rfl
/-- the walk: places back from the end, turned round -/
def pathL (b : Nat → Nat) (K : Nat) : List Int := (List.range (K + 1)).map fun i => ((b (K - i) : Nat) : Int)
theorem pathL_len (b : Nat → Nat) (K : Nat) : (pathL b K).length = K + 1 := by simp [pathL]
theorem pathL_take (b : Nat → Nat) (K k : Nat) (hk : k ≤ K) : (pathL b K).take (k + 1) = (pathL b K).take k ++ [((b (K - k) : Nat) : Int)] := by
  have hl : k < (pathL b K).length := by rw [pathL_len]; omega
  rw [List.take_succ_eq_append_getElem hl]
  simp [pathL]
/-- what holds while the walk is turned round: X the way's place, wo the world ahead of it -/
structure WzI (wo : World) (cost : Int) (v : Value) (xs : List Int) (wr : World) : Prop where
  o0 : wr.cell? ⟨wo.heap.size, 0, none⟩ = some v
  o1 : wr.cell? ⟨wo.heap.size, 1, none⟩ = some (.int .i64 cost)
  fo : wr.frozen? ⟨wo.heap.size, 0, none⟩ = false
  own : Own encI 1 3 wr (wo.heap.size + 1) v xs
  bel : Below wo.heap.size wo wr
section
variable {wo wr w' : World} {cost : Int} {v : Value} {xs : List Int}
theorem WzI.lt (h : WzI wo cost v xs wr) : wo.heap.size < wr.heap.size := cell_lt h.o0
theorem WzI.stays (h : WzI wo cost v xs wr) (b : Below wr.heap.size wr w') : WzI wo cost v xs w' :=
  ⟨cu_below b h.o0 (cell_lt h.o0), cu_below b h.o1 (cell_lt h.o1), fu_below b h.fo (cell_lt h.o0), h.own.stays b, h.bel.trans (b.mono h.bel.size)⟩
theorem WzI.ap (h : WzI wo cost v xs wr) : v.ownBlock ≠ some wo.heap.size := fun e => by
  have := (h.own.block_lt _ e).1
  omega
theorem WzI.grew (h : WzI wo cost v xs wr) {v' : Value} {xs' : List Int} (own' : Own encI 1 3 w' (wo.heap.size + 1) v' xs') (hg : wr.grownBy w' v.ownBlock) : WzI wo cost v' xs' (w'.setCell ⟨wo.heap.size, 0, none⟩ v') := by
  have hl := h.lt
  have hap := h.ap
  refine ⟨World.cell?_setCell_same _ _ _ (hg.cell h.o0 (fun e => hap e.symm)), cu_set_off (hg.cell h.o1 (fun e => hap e.symm)) (by omega), fu_set ((hg.frozen_far ⟨wo.heap.size, 0, none⟩ (by simp; omega) (fun e => hap e.symm)).trans h.fo), own'.elsewhere (fun e => by have := (own'.block_lt wo.heap.size e).1; omega) _, ?_⟩
  refine Below.setCell (h.bel.grown hg h.bel.size (fun k hk => by have := (h.own.block_lt k hk).1; omega)) ?_ _
  simp
end
set_option maxRecDepth 100000 in
set_option maxHeartbeats 4000000 in
theorem way_ok (n : Nat) (a : Option Addr) (cap : Nat) (es : List Ed) (f t : Nat) (w : World) (B : Nat) (hB : B ≤ w.heap.size) (hE : Row encE 3 w B a es) (h0 : lookErr (n : Int) es [(f : Int), (t : Int)] = 0) (K : Nat) (hK0 : backF n (nes es) (distF n es f) t K = f)
    (hK1 : ∀ j, j ≤ K → backF n (nes es) (distF n es f) t j < n ∧ distF n es f (backF n (nes es) (distF n es f) t j) < FAR) (hK2 : ∀ j, j < K → backF n (nes es) (distF n es f) t j ≠ f) (hK3 : (K : Int) ≤ distF n es f t) (hd0 : ∀ u, u < n → 0 ≤ distF n es f u ∧ distF n es f u ≤ FAR) :
    Calls Try.prog 17 #[.agg #[.int .i64 (n : Int), .slice a es.length cap], .int .i64 (f : Int), .int .i64 (t : Int)] w (WayBack (pathL (backF n (nes es) (distF n es f) t) K) (K + 1) (distF n es f t) 0 w) := by
  obtain ⟨g1, g2⟩ := look_ok h0
  obtain ⟨g3, g4⟩ := posErr_ok g1
  obtain ⟨n1, n2, n3, n4⟩ := netErr_ok g3
  have hf : f < n := by have := g2 f (by simp); omega
  have ht : t < n := by have := g2 t (by simp); omega
  have hL := hide (fun a1 c1 w B hB hE hP => by have := look_any (n : Int) a cap es a1 c1 2 [(f : Int), (t : Int)] rfl w B hB hE hP (by omega) (by omega); rw [h0] at this; exact this)
  have hR := hide (fun w B hB hE => run_any n a cap es f w B hB hE (by omega) (by omega) n3 n4 g4 hf)
  have hltF : distF n es f t < 1099511627776 := (hK1 0 (Nat.zero_le _)).2
  have hKb : K ≤ 1099511627776 := by omega
  replace g4 := hide g4
  have hes := hide (show Right n es from n4)
  replace hE := hide hE
  clear h0 g1 g2 g3 n4
  obtain ⟨d, hd⟩ : ∃ d, d = distF n es f := ⟨_, rfl⟩
  rw [← hd] at hK0 hK1 hK2 hK3 hd0 hltF hR ⊢
  obtain ⟨b, hb⟩ : ∃ b, b = backF n (nes es) d t := ⟨_, rfl⟩
  rw [← hb] at hK0 hK1 hK2 ⊢
  have hb0 : b 0 = t := by rw [hb]; rfl
  have hbs := hide (fun i => show b (i + 1) = prevF n (nes es) d (b i) by rw [hb]; rfl)
  replace hb := hide hb
  replace hd := hide hd
  replace hK0 := hide hK0
  replace hK1 := hide hK1
  replace hK2 := hide hK2
  replace hd0 := hide hd0
  replace hb0 := hide hb0
  go_enter Try.func17, Try.ntmps17
  go_wp2_with fail
  refine (hL.out _ _ _ (w.heap.size + 1 + 1 + 1) (by simp) ((hE.out.below (bel : Below w.heap.size w _) hB).mono (by omega)) ((row2 (by simp [go_sem]) (by simp [go_sem])).mono (by simp))).mono ?_
  rintro e w1 ⟨rfl, hb1⟩
  obtain ⟨hc1, hf1⟩ := bcell hb1
  have hz1 : w.heap.size + 1 + 1 < w1.heap.size := by have := hb1.size; simp at this; omega
  have hz0 : w.heap.size + 1 < w1.heap.size := by omega
  have hzz : w.heap.size < w1.heap.size := by omega
  go_wp2_with fail
  refine (hR.out _ B (by omega) (hE.out.below (bel : Below w.heap.size w _) hB)).mono ?_
  rintro e w2 ⟨av, cv, rfl, own, hb2⟩
  obtain ⟨D, rfl, hD1, hD2⟩ := own.blockI (by omega)
  have hI : WyI w n a es.length cap D d w2 := ⟨cu_below hb2 (by simp [hc1, go_sem, hzz]) hzz, cu_below hb2 (by simp [hc1, go_sem, hzz]) hzz, cu_below hb2 (by simp [hc1, go_sem, hz0]) hz0, cu_below hb2 (by simp [hc1, go_sem, hz0]) hz0, fu_below hb2 (by simp [hf1, go_sem, hz0]) hz0, fu_below hb2 (by simp [hf1, go_sem, hz0]) hz0, fun u hu => own.atI u hu, hD2, bel⟩
  replace hI := hide hI
  have c0 := own.atI t ht
  have it : (0 : Int) ≤ (t : Int) ∧ (t : Int) < (n : Int) := by omega
  obtain ⟨dt, hdt⟩ : ∃ x, x = d t := ⟨_, rfl⟩
  rw [← hdt] at c0 hltF hK3
  have q0 : (dt == 1099511627776) = false := by simp; omega
  replace hdt := hide hdt
  clear hb1 hc1 hf1 hb2 own hL hR
  go_wp2
  have own1 := hide (own_one w2 w2.heap.size 3 (t : Int) (Nat.le_refl _))
  have hI1 := hide (hI.out.stays ((Below.refl _ _).alloc (Nat.le_refl _) (.cells #[.int .i64 (t : Int)] 3)))
  have hz2 := hI.out.dlt
  have hzw2 : w.heap.size + 1 < w2.heap.size := cell_lt hI.out.r0
  generalize (w2.alloc (.cells #[.int .i64 (t : Int)] 3)) = w3 at own1 hI1 ⊢
  clear c0
  go_loopg [10, 11] K (fun gk s10 s11 wr => ∃ (i g c : Nat), i + gk = K ∧ s11 = .int .i64 ((b i : Nat) : Int) ∧ s10 = .slice (some ⟨g, 0, none⟩) (i + 1) c ∧ Hid (Own encI 1 3 wr w2.heap.size (.slice (some ⟨g, 0, none⟩) (i + 1) c) (LI (i + 1) (fun j => ((b j : Nat) : Int)))) ∧ Hid (WyI w n a es.length cap D d wr))
  case atStart => exact ⟨0, _, _, by omega, by rw [hb0.out], rfl, by
    have e1 : LI (0 + 1) (fun j => ((b j : Nat) : Int)) = [(t : Int)] := by simp [LI, hb0.out]
    rw [e1]; exact own1, hI1⟩
  case round =>
    obtain ⟨i, g, c, hik, rfl, rfl, own, hI2⟩ := hrel
    clear own1 hI1
    have kb0 := hI2.out.b0
    have kb1 := hI2.out.b1
    have hzr := hI2.out.dlt
    have hbel := hI2.out.bel
    have hw0 : w.heap.size < wr.heap.size := cell_lt kb0
    obtain ⟨v, hv⟩ : ∃ v, v = b i := ⟨_, rfl⟩
    have hvn := hK1.out i (by omega)
    rw [← hv] at hvn ⊢
    by_cases hvf : v = f
    · have hiK : i = K := by
        rcases Nat.lt_or_ge i K with h | h
        · exact absurd (hv ▸ hvf) (hK2.out i h)
        · omega
      subst hiK
      have q1 : ((v : Int) != (f : Int)) = false := by simp; omega
      have ct := hI2.out.dist t ht
      rw [← hdt.out] at ct
      have hIo := hI2
      have hw1 : w.heap.size + 1 < wr.heap.size := cell_lt hI2.out.r0
      replace hv := hide hv
      replace hvf := hide hvf
      have hb0' := hide hbel
      have hZ0 : WzI wr dt (.slice none 0 0) [] (wr.alloc (.cells #[.slice none 0 0, .int .i64 dt] 51)) :=
        ⟨by simp [go_sem], by simp [go_sem], by simp [go_sem], Own.nil _ _, up_alloc (Below.refl _ _) (Nat.le_refl _)⟩
      replace hZ0 := hide hZ0
      clear kb0 kb1 hbel
      go_wp2
      obtain ⟨wo, rfl⟩ : ∃ wo : World, wo = wr := ⟨_, rfl⟩
      generalize (wo.alloc (.cells #[.slice none 0 0, .int .i64 dt] 51)) = wz at hZ0 ⊢
      go_loopw [16] (fun s16 wr => ∃ (j k c0 : Nat) (a0 : Option Addr), j + k = i + 1 ∧ s16 = .int .i64 ((j : Int) - 1) ∧ Hid (WzI wo dt (.slice a0 k c0) ((pathL b i).take k) wr)) (fun s16 _ => (intOf s16 + 1).toNat)
      case atStart => exact ⟨i + 1, 0, 0, none, by omega, by go_num, by rw [List.take_zero]; exact hZ0⟩
      case round =>
        obtain ⟨j, k, c0, a0, hjk, rfl, hZ⟩ := hrel
        clear hZ0
        have z0 := hZ.out.o0
        have z1 := hZ.out.o1
        have zf := hZ.out.fo
        have zl := hZ.out.lt
        rcases j with _ | j
        · obtain rfl : k = i + 1 := by omega
          have e0 : ((0 : Nat) : Int) - 1 = -1 := by omega
          rw [e0]
          have hz7 := hZ.out.bel.size
          have r0 := cu_below hZ.out.bel hIo.out.r0 hw1
          have r1 := cu_below hZ.out.bel hIo.out.r1 hw1
          have f0 := fu_below hZ.out.bel hIo.out.f0 hw1
          have f1 := fu_below hZ.out.bel hIo.out.f1 hw1
          have hrl : w.heap.size + 1 < wr.heap.size := by omega
          have e2 : (pathL b i).take (i + 1) = pathL b i := List.take_of_length_le (by rw [pathL_len]; omega)
          have hne : (Value.slice a0 (i + 1) c0).ownBlock ≠ some (w.heap.size + 1) := fun e => by have := (hZ.out.own.block_lt (w.heap.size + 1) e).1; omega
          have own8 := (hZ.out.own.elsewhere (p := ⟨w.heap.size + 1, 0, none⟩) hne (.slice a0 (i + 1) c0)).elsewhere (p := ⟨w.heap.size + 1, 1, none⟩) hne (.int .i64 dt)
          rw [e2] at own8
          have hrow := own8.row lenI
          replace hrow := hide hrow
          have hbf := hide (((hb0'.out.trans (hZ.out.bel.mono (by omega))).setCell (p := ⟨w.heap.size + 1, 0, none⟩) (by simp) (.slice a0 (i + 1) c0)).setCell (p := ⟨w.heap.size + 1, 1, none⟩) (by simp) (.int .i64 dt))
          clear own8 hne e0 e2
          go_wp2
          refine bodyPost_ret (v := .tuple #[.agg #[.slice a0 (i + 1) c0, .int .i64 dt], .int .i64 0]) (by simp [results, Try.results17, go_sem, r0, r1, hrl]) rfl ?_
          obtain ⟨a8, c8, hv8, r8, _⟩ := hrow.out
          simp only [Value.slice.injEq] at hv8
          obtain ⟨rfl, _, rfl⟩ := hv8
          rw [← hdt.out]
          exact ⟨_, _, rfl, r8, hbf.out⟩
        · have e1 : ((j + 1 : Nat) : Int) - 1 = (j : Int) := by omega
          rw [e1]
          have cb := cu_below hZ.out.bel (own.out.atI j (by omega)) own.out.at_base.2
          have hgl : g < wr.heap.size := cell_lt cb
          have hlen : ((pathL b i).take k).length = k := by rw [List.length_take, pathL_len]; omega
          have hpt := pathL_take b i k (by omega)
          have e2 : i - k = j := by omega
          rw [e2] at hpt
          obtain ⟨x, hx⟩ : ∃ x : Int, x = ((b j : Nat) : Int) := ⟨_, rfl⟩
          rw [← hx] at hpt cb
          replace hx := hide hx
          replace hpt := hide hpt
          replace hlen := hide hlen
          have ij : (0 : Int) ≤ (j : Int) ∧ (j : Int) < (i : Int) + 1 := by omega
          have ij2 : (j : Int) < ((i + 1 : Nat) : Int) := by omega
          have hki : k ≤ i := by omega
          clear e1 e2
          go_wp2
          go_region_law (first
            | (refine step_pushAll (base := wo.heap.size + 1) (xs := (pathL b i).take k) (v := .slice a0 k c0) rfl (.tmp 92) (.tmp 97) 22 rfl _ 8 Try.underlying22 info_int rfl (by omega) lenI oneI k hlen.out rfl (hZ.out.own.alloc _).drew (wr.heap.size + 1) (some ⟨wr.heap.size, 0, none⟩) 1 1 [x] rfl rfl ((row1 (by simp [go_sem])).mono (by simp)) (by omega) (by unfold maxLen; omega) (by simp; omega) ?_; intro a4 c4 w4 own4 hb4 hg4; have hZ4 := (hZ.out.stays (w' := wr.alloc (.cells #[.int .i64 x] 3)) (up_alloc (Below.refl _ _) (Nat.le_refl _))); have hg5 : (wr.alloc (.cells #[.int .i64 x] 3)).grownBy w4 (Value.slice a0 k c0).ownBlock := ⟨hg4.os, hg4.tape, hg4.output, hg4.size, hg4.block⟩; have hZ5 := hZ4.grew own4 hg5; rw [← hpt.out] at hZ5; have hap4 := hZ4.ap; have k4 := hg5.cell hZ4.o0 (fun e => hap4 e.symm); have f4 := (hg5.frozen_far ⟨wo.heap.size, 0, none⟩ (by first | (simp; done) | (simp; omega)) (fun e => hap4 e.symm)).trans hZ4.fo))
          all_goals
            replace own4 := hide own4
            replace hb4 := hide hb4
            replace hg4 := hide hg4
            replace hg5 := hide hg5
            replace hZ4 := hide hZ4
            replace hZ5 := hide hZ5
            clear k4 f4 hap4 cb
            go_wp2
            go_roundw
            case rel => exact ⟨j, k + 1, c4, a4, by omega, by go_num, hZ5⟩
            case measure => simp [intOf] <;> omega
    · have hiK : i < K := by
        rcases Nat.lt_or_ge i K with h | h
        · exact h
        · exfalso
          have : i = K := by omega
          subst this
          exact hvf (by rw [hv]; exact hK0.out)
      have q1 : ((v : Int) != (f : Int)) = true := by simp; omega
      have hb1' := hide (show b (i + 1) = prevF n (nes es) d v by rw [hbs.out, hv])
      have hB2 := hide hI2.out.bel
      replace hv := hide hv
      replace hvf := hide hvf
      clear hbel
      obtain ⟨wo, rfl⟩ : ∃ wo : World, wo = wr := ⟨_, rfl⟩
      go_wp2
      go_loopw [12, 46] (fun s12 s46 wr => ∃ k : Nat, k ≤ es.length ∧ s46 = .int .i64 k ∧ s12 = .int .i64 ((pvK n es d v k : Nat) : Int) ∧ Hid (Below wo.heap.size wo wr)) (fun _ s46 _ => es.length - (intOf s46).toNat)
      case atStart => exact ⟨0, Nat.zero_le _, rfl, by rw [pvK_zero], Below.refl _ _⟩
      case round =>
        obtain ⟨k, hk, rfl, rfl, hb⟩ := hrel
        have hI3 := hide (hI2.out.stays hb.out)
        have hzq := hb.out.size
        have kb1 := hI3.out.b1
        have kb0 := hI3.out.b0
        obtain ⟨u0, hu0⟩ : ∃ u, u = pvK n es d v k := ⟨_, rfl⟩
        rw [← hu0]
        by_cases hlt : k < es.length
        · obtain ⟨x, y, d1, d2, d3, d4, d5, d6, dn⟩ := right_edge hes.out k hlt
          have hsu := hide (pvK_succ (n := n) (d := d) (v := v) dn)
          rw [← hu0] at hsu
          replace hu0 := hide hu0
          obtain ⟨eb, o, rfl, hbB, c0, c1, c2⟩ := hE.out.ed k hlt
          have c0 := cu_below hI3.out.bel c0 (by simp; omega)
          have c1 := cu_below hI3.out.bel c1 (by simp; omega)
          have c2 := cu_below hI3.out.bel c2 (by simp; omega)
          rw [d1] at c0
          rw [d2] at c1
          have hel : eb < wr.heap.size := cell_lt c0
          have cx := hI3.out.dist x d3
          have cv := hI3.out.dist v hvn.1
          have hDq := hI3.out.dlt
          have hdx := hd0.out x d3
          have hdv := hd0.out v hvn.1
          obtain ⟨c, hc⟩ : ∃ c, c = es[k].c := ⟨_, rfl⟩
          obtain ⟨p, hp⟩ : ∃ p, p = d x := ⟨_, rfl⟩
          obtain ⟨r, hr⟩ : ∃ r, r = d v := ⟨_, rfl⟩
          rw [← hc] at c2 d5 d6 hsu
          rw [← hp] at cx hdx hsu
          rw [← hr] at cv hdv hsu
          unfold FAR at hdx hdv
          have hw := hide (show IntKind.i64.wrap (p + c) = p + c from IntWalk.i64_in _ (by omega))
          have ix : (0 : Int) ≤ (x : Int) ∧ (x : Int) < (n : Int) := by omega
          have iv : (0 : Int) ≤ (v : Int) ∧ (v : Int) < (n : Int) := by omega
          have ik : (0 : Int) ≤ (k : Int) ∧ (k : Int) < (es.length : Int) := by omega
          replace hc := hide hc
          replace hp := hide hp
          replace hr := hide hr
          replace d1 := hide d1
          replace d2 := hide d2
          replace dn := hide dn
          have hcase : (y = v ∧ p + c = r) ∨ (y = v ∧ p + c ≠ r) ∨ y ≠ v := by
            by_cases h1 : y = v
            · by_cases h2 : p + c = r
              · exact .inl ⟨h1, h2⟩
              · exact .inr (.inl ⟨h1, h2⟩)
            · exact .inr (.inr h1)
          have hb4 := hide (show ∀ m, Below wo.heap.size wo ((wr.alloc (.cells #[.int .i64 (x : Int), .int .i64 (y : Int), .int .i64 c] 69)).drewN m) from fun m => up_drewN (up_alloc hb.out hzq))
          rcases hcase with ⟨h1, h2⟩ | ⟨h1, h2⟩ | h1
          · have e1 := hide (show pvK n es d v (k + 1) = min u0 x by rw [hsu.out, if_pos ⟨h1, h2⟩])
            have q2 : ((y : Int) == (v : Int)) = true := by simp; omega
            have q3 : (p + c == r) = true := by simp; omega
            replace h1 := hide h1
            replace h2 := hide h2
            go_wp2
            replace hw := hw.out
            go_quiet (fail)
            clear hw
            go_wp2
            go_roundw
            case rel => exact ⟨k + 1, by omega, by go_num, by rw [e1.out]; congr 1; split <;> omega, hide (hb4.out _)⟩
            case measure => simp [intOf] <;> omega
          · have e1 := hide (show pvK n es d v (k + 1) = u0 by rw [hsu.out, if_neg (fun h => h2 h.2)])
            have q2 : ((y : Int) == (v : Int)) = true := by simp; omega
            have q3 : (p + c == r) = false := by simp; omega
            replace h1 := hide h1
            replace h2 := hide h2
            go_wp2
            replace hw := hw.out
            go_quiet (fail)
            clear hw
            go_wp2
            go_roundw
            case rel => exact ⟨k + 1, by omega, by go_num, by rw [e1.out], hide (hb4.out _)⟩
            case measure => simp [intOf] <;> omega
          · have e1 := hide (show pvK n es d v (k + 1) = u0 by rw [hsu.out, if_neg (fun h => h1 h.1)])
            have q2 : ((y : Int) == (v : Int)) = false := by simp; omega
            replace h1 := hide h1
            go_wp2
            go_quiet (fail)
            go_wp2
            go_roundw
            case rel => exact ⟨k + 1, by omega, by go_num, by rw [e1.out], hide (hb4.out _)⟩
            case measure => simp [intOf] <;> omega
        · obtain rfl : k = es.length := by omega
          have hu1 : u0 = b (i + 1) := by rw [hu0, pvK_all, hb1'.out]
          replace hu0 := hide hu0
          replace hu1 := hide hu1
          have hown := hide (own.out.stays hb.out)
          have hlen : (LI (i + 1) (fun j => ((b j : Nat) : Int))).length = i + 1 := li_len _ _
          replace hlen := hide hlen
          have hDq := hI3.out.dlt
          have hgb := hown.out.at_base
          go_wp2_with (at_builtin; (refine wpList_push (e := 3) (enc := encI) (xs := (LI (i + 1) (fun j => ((b j : Nat) : Int)))) (v := .slice (some ⟨g, 0, none⟩) ((i + 1)) c) (base := w2.heap.size) rfl (.tmp 74) (.tmp 76) 22 rfl _ 8 Try.underlying22 info_int rfl ?d15 lenI oneI ((i + 1)) ?d25 ?d35 ?d45 ⟨wr.heap.size, 0, none⟩ 1 ((u0 : Nat) : Int) ?d55 ?d65 ?d75 ?d85 ?d95 ?_); (case d15 => omega); (case d25 => exact hlen.out); (case d35 => rfl); (case d45 => exact (hown.out.alloc _)); (case d55 => rfl); (case d65 => exact newI _ _ _ _ rfl); (case d75 => omega); (case d85 => unfold maxLen; omega); (case d95 => first | omega | (simp; done) | (simp; omega)); intro g5 c5 w5 own5 hb5 hgr5 hg5 hgl5; have hB5 := hide (unalloc hb5 (by omega)); replace own5 := hide own5; replace hb5 := hide hb5; replace hgr5 := hide hgr5)
          have hl2 : LI (i + 1) (fun j => ((b j : Nat) : Int)) ++ [((u0 : Nat) : Int)] = LI (i + 1 + 1) (fun j => ((b j : Nat) : Int)) := by rw [hu1.out]; exact (li_succ (i + 1) _).symm
          have own6 := own5.out
          rw [hl2] at own6
          replace own6 := hide own6
          have hI5 := hide (hI3.out.kept hB5.out hz2 hzw2)
          go_roundg (gk - 1)
          case measure => omega
          case rel => exact ⟨i + 1, g5, c5, by omega, by rw [hu1.out], rfl, own6, hI5⟩
end Go.Proofs.Ytccailcjclbhlaa
/-! felltop.begun returns true. No conditions. -/
namespace Go.Proofs.Ytccailcjclbhlaa
open Go.RowKit
set_option linter.unusedSimpArgs false
set_option linter.unusedVariables false
theorem begun_b1 : backF 2 (nes [⟨0, 1, 5⟩]) (distF 2 [⟨0, 1, 5⟩] 0) 1 1 = 0 := by decide
theorem begun_look : lookErr 2 [⟨0, 1, 5⟩] [0, 1] = 0 := by decide
theorem begun_way (a : Option Addr) (cap : Nat) (w : World) (B : Nat) (hB : B ≤ w.heap.size) (hE : Row encE 3 w B a [⟨0, 1, 5⟩]) :
    Calls Try.prog 17 #[.agg #[.int .i64 2, .slice a 1 cap], .int .i64 0, .int .i64 1] w (WayBack [0, 1] 2 5 0 w) := by
  have h := way_ok 2 a cap [⟨0, 1, 5⟩] 0 1 w B hB hE begun_look 1 begun_b1 (fun j hj => by
    match j, hj with
    | 0, _ => exact ⟨by decide, by decide⟩
    | 1, _ => exact ⟨by decide, by decide⟩) (fun j hj => by
    obtain rfl : j = 0 := by omega
    decide) (by decide) (fun u hu => by
    match u, hu with
    | 0, _ => exact ⟨by decide, by decide⟩
    | 1, _ => exact ⟨by decide, by decide⟩)
  exact h
/-- a slice of one edge, just built -/
theorem rowE1 (w : World) (t : TypeId) (x : Ed) : Row encE 3 (w.alloc (.cells #[.int .i64 x.u, .int .i64 x.v, .int .i64 x.c] t)) (w.heap.size + 1) (some ⟨w.heap.size, 0, none⟩) [x] := by
  intro i hi
  obtain rfl : i = 0 := by simp at hi; omega
  refine ⟨w.heap.size, 0, rfl, by omega, fun j u hu => ?_⟩
  have h := newE w t x w.heap.size rfl j u hu
  simpa [WideShapes.add_plain] using h
set_option maxRecDepth 100000 in
set_option maxHeartbeats 1000000 in
theorem begun_any (w : World) : Calls Try.prog 5 #[] w fun e w' => e = .returned (.bool true) ∧ Below w.heap.size w w' := by
  have hW := hide (fun a cap w B hB hE => begun_way a cap w B hB hE)
  unfold WayBack at hW
  go_enter Try.func5, Try.ntmps5
  go_wp2_with fail
  refine (hW.out _ _ _ (w.heap.size + 1) (by simp) (rowE1 w _ (⟨0, 1, 5⟩ : Ed))).mono ?_
  rintro e w1 ⟨a1, c1, rfl, hr1, hb1⟩
  have hbw := hide (unalloc (hb1.mono (by simp)) (Nat.le_refl _) : Below w.heap.size w w1)
  clear hb1
  go_wp2
  go_ret
  exact ⟨rfl, up_alloc hbw.out hbw.out.size⟩
end Go.Proofs.Ytccailcjclbhlaa
/-! What TopService keeps in memory: the service, and the requests that it took. No condition. -/
namespace Go.Proofs.Ytccailcjclbhlaa
open Go.RowKit
set_option linter.unusedSimpArgs false
set_option linter.unusedVariables false
theorem info_pair : (Try.prog.info? 33).map (fun i => (i.zero, i.size, i.bytes)) = some (some (.agg #[.int .i64 0, .int .i64 0]), 2, 16) := by kernel_rfl
/-- the service, and the requests it took -/
structure TS (svb B : Nat) (ws : List P2) (w0 : World) (σ : Sv) (P : Nat → Prop) (l : List P2) (av : Option Addr) (n cv : Nat) (w : World) : Prop where
  p : PSv σ svb P w
  c : Cn σ l ws
  r : Rn σ
  o : Own encP 2 33 w B (.slice av n cv) l
  ln : l.length = n
  a : ∀ j, P j → B ≤ j ∧ (Value.slice av n cv).ownBlock ≠ some j
  b : Below B w0 w
section
variable {svb B n cv : Nat} {ws l : List P2} {w0 w w' : World} {σ σ' : Sv} {P : Nat → Prop} {av : Option Addr}
theorem TS.stays (h : TS svb B ws w0 σ P l av n cv w) (hB : B ≤ w.heap.size) (hb : Below w.heap.size w w') : TS svb B ws w0 σ P l av n cv w' :=
  ⟨h.p.stays hb, h.c, h.r, (Keep.new (S := fun _ => False) hb).own h.o (fun _ _ e => e), h.ln, h.a, h.b.trans (hb.mono hB)⟩
theorem TS.left (h : TS svb B ws w0 σ P l av n cv w) (hB : B ≤ w.heap.size) (hL : PLeft σ' svb P w w') (hc : Cn σ' l ws) (hr : Rn σ') : TS svb B ws w0 σ' (grown P w w') l av n cv w' := by
  refine ⟨hL.1, hc, hr, hL.2.own h.o (fun j e hp => (h.a j hp).2 e), h.ln, fun j hj => ?_, h.b.trans (hL.2.toBelow (fun j hp => (h.a j hp).1) hB)⟩
  rcases hj with hj | hj
  · exact h.a j hj
  · exact ⟨by omega, fun e => by have := (h.o.block_lt j e).2; omega⟩
theorem TS.push' (h : TS svb B ws w0 σ P l av n cv w) (hB : B ≤ w.heap.size) (hL : PLeft σ' svb P w w') {x : P2} (hc : Cn σ' (l ++ [x]) ws) (hr : Rn σ') {o : Obj} {g c : Nat} {w2 : World} (kp : Keep (fun j => (Value.slice av n cv).ownBlock = some j) (w'.alloc o) w2) (own : Own encP 2 33 w2 B (.slice (some ⟨g, 0, none⟩) (n + 1) c) (l ++ [x])) (hat : (Value.slice av n cv).ownBlock = some g ∨ (w'.alloc o).heap.size ≤ g) : TS svb B ws w0 σ' (grown P w w') (l ++ [x]) (some ⟨g, 0, none⟩) (n + 1) c w2 := by
  have kp1 := hL.2
  have ho : Own encP 2 33 w' B (.slice av n cv) l := kp1.own h.o (fun j e hp => (h.a j hp).2 e)
  have ha : ∀ j, grown P w w' j → B ≤ j ∧ (Value.slice av n cv).ownBlock ≠ some j := fun j hj => by
    rcases hj with hj | hj
    · exact h.a j hj
    · exact ⟨by omega, fun e => by have := (h.o.block_lt j e).2; omega⟩
  have kp2 : Keep (fun j => (Value.slice av n cv).ownBlock = some j) w' w2 := (Keep.new ((Below.refl _ _).alloc (Nat.le_refl _) o)).trans kp
  refine ⟨hL.1.keep kp2 (fun j hj e => (ha j hj).2 e), hc, hr, own, by simp [h.ln], fun j hj => ⟨(ha j hj).1, fun e => ?_⟩, (h.b.trans (kp1.toBelow (fun j hp => (h.a j hp).1) hB)).trans (kp2.toBelow (fun j e => (ho.block_lt j e).1) (Nat.le_trans hB kp1.size))⟩
  simp only [Value.ownBlock, Option.some.injEq] at e
  subst e
  rcases hat with h1 | h1
  · exact (ha g hj).2 h1
  · have := hL.1.2.1 g hj
    simp at h1
    omega
theorem TS.done (h : TS svb B ws w0 σ P l av n cv w) : ∀ i q, i < 6 → σ.sl i = some q → q.s.done ≤ 600 ∧ q.s.told.length ≤ q.ws.length := by
  intro i q hi hq
  obtain ⟨hok, hlt, ga, gc, xs, W, N, hX, hin⟩ := h.p
  obtain ⟨x, hx, sb, cw, aw, rv, A, C, hQ⟩ := hX.someAt hi hq
  obtain ⟨h1, h2, h3, h4, h5⟩ := hQ.obj.inv
  exact ⟨ainv_done h1 h5 h2 h3, h2⟩
end
theorem kwithin_any (x y : Int) (hy : 0 < y ∧ y ≤ 1000) (w : World) :
    Calls Try.prog 8 #[.int .i64 x, .int .i64 y] w fun e w' => ∃ z, e = .returned (.int .i64 z) ∧ Below w.heap.size w w' := by
  have h0 : y ≠ 0 := by omega
  go_enter Try.func8, Try.ntmps8
  go_wp2
  go_ret
  exact ⟨_, rfl, bel⟩
theorem arun_z (n f t el : Nat) (a : Option Addr) (cap : Nat) (es : List Ed) (hel : es.length = el) (ah : Option Addr) (ch : Nat) (aw : Option Addr) (m cw : Nat) (ws : List P2) (hm : ws.length = m) (w : World) (hE : Row encE 3 w w.heap.size a es) (hH : Row encI 1 w w.heap.size ah (LI n hZ)) (hW : Row encP 2 w w.heap.size aw ws) (hl : el ≤ 100000) (hn : n ≤ 64) (h0 : lookErr (n : Int) es [(f : Int), (t : Int)] = 0) (h1 : wsErr ws = 0) :
    Calls Try.prog 12 #[.agg #[.int .i64 (n : Int), .slice a el cap], .int .i64 (f : Int), .int .i64 (t : Int), .slice ah n ch, .slice aw m cw] w (RunAns n t es hZ ws f w) := by
  subst hel
  have h := arun_ok n f t a cap es ah ch (List.replicate n 0) aw m cw ws hm w w.heap.size (Nat.le_refl _) hE (by rw [← li_hZ]; exact hH) hW (by omega) (by simp; omega) (by rw [slook_zero]; exact h0) h1
  rw [List.length_replicate, hAt_rep] at h
  exact h
/-- what Run tells, the last of it round r -/
def RunSays (m : Nat) (r : RD) (w0 : World) (e : Ending) (w' : World) : Prop := ∃ g c pa pc, e = .returned (.tuple #[.slice (some ⟨g, 0, none⟩) m c, .int .i64 0]) ∧ Below w0.heap.size w0 w' ∧ g < w'.heap.size ∧ w'.cell? ⟨g, (m - 1) * 5, none⟩ = some (.int .i64 r.wa) ∧ w'.cell? ⟨g, (m - 1) * 5 + 1, none⟩ = some (.int .i64 r.wb) ∧ w'.cell? ⟨g, (m - 1) * 5 + 2, none⟩ = some (.slice pa r.path.length pc) ∧ w'.cell? ⟨g, (m - 1) * 5 + 3, none⟩ = some (.int .i64 r.cost) ∧ w'.cell? ⟨g, (m - 1) * 5 + 4, none⟩ = some (.int .i64 (r.done : Int)) ∧ Row encI 1 w' w'.heap.size pa r.path
theorem run_says {σ : Sv} (hR : Rn σ) {i : Nat} (hi : i < 6) {q : Sq} (hq : σ.sl i = some q) (ho : q.ws.length ≤ q.s.told.length) (ht : q.s.told.length ≤ q.ws.length) (h1 : 1 ≤ q.ws.length) (hp : ∀ r ∈ q.s.told, r.path.length ≤ 64) : ∃ r, pollQ (some q) = (4, r, 0) ∧ r.path.length ≤ 64 ∧ ∀ w0 e w', RunAns σ.cs.length q.t σ.es hZ q.ws q.f w0 e w' → RunSays q.ws.length r w0 e w' := by
  have hne : q.s.told ≠ [] := fun e => absurd (show q.s.told.length = 0 by rw [e]; rfl) (by omega)
  obtain ⟨r, hr⟩ : ∃ r, q.s.told.getLast? = some r := ⟨_, List.getLast?_eq_some_getLast hne⟩
  refine ⟨r, over_poll (by omega) hr, hp r (List.mem_of_getLast? hr), fun w0 e w' hA => ?_⟩
  obtain ⟨a, c, s0, s', K, rfl, g1, g2, g3, g4, g5, g6⟩ := hA
  have hs : q.s = s' := over_says hR hi hq ho g1 g2 g3
  subst hs
  obtain ⟨g, rv, rfl, -, hg, d0, d1, d2, d3, d4, k1, k2, k3, k4, k5, k6⟩ := rounds_last g4 g3 hr
  obtain ⟨pa, pc, hev, hrow, -, -⟩ := k6.row lenI
  simp only [Value.slice.injEq] at hev
  rw [← hev.1] at hrow
  rw [k1] at d0
  rw [k2] at d1
  rw [k5] at d2
  rw [k3] at d3
  rw [k4] at d4
  exact ⟨g, c, rv.pa, rv.pc, rfl, g5, hg, d0, d1, d2, d3, d4, hrow⟩
theorem TS.says {svb B n cv : Nat} {ws l : List P2} {w0 w : World} {σ : Sv} {P : Nat → Prop} {av : Option Addr} (h : TS svb B ws w0 σ P l av n cv w) (ho : ∀ i q, i < 6 → σ.sl i = some q → q.ws.length ≤ q.s.told.length) {k : Nat} (hk : k < n) : ∃ (f t : Nat) (r : RD), l[k]? = some ⟨(f : Int), (t : Int)⟩ ∧ 1 ≤ ws.length ∧ wsErr ws = 0 ∧ lookErr (σ.cs.length : Int) σ.es [(f : Int), (t : Int)] = 0 ∧ pollQ (σ.at (k : Int)) = (4, r, 0) ∧ r.path.length ≤ 64 ∧ ∀ w0 e w', RunAns σ.cs.length t σ.es hZ ws f w0 e w' → RunSays ws.length r w0 e w' := by
  have hkl : k < l.length := by rw [h.ln]; exact hk
  obtain ⟨q, g1, g2, g3, g4⟩ := h.c.2.1 k hkl
  have h6 : k < 6 := by have := h.c.1; omega
  have hok := h.p.1.q k q h6 g1
  have hp : ∀ r ∈ q.s.told, r.path.length ≤ 64 := by
    obtain ⟨hok, hlt, ga, gc, xs, W, N, hX, hin⟩ := h.p
    exact hX.paths k q h6 g1
  obtain ⟨r, k1, k2, k3⟩ := run_says h.r h6 g1 (ho k q h6 g1) (h.done k q h6 g1).2 (wsErr_ok hok.w).1 hp
  subst g4
  refine ⟨q.f, q.t, r, ?_, (wsErr_ok hok.w).1, hok.w, h.p.1.look hok.f hok.t, by rw [at_in h6, g1]; exact k1, k2, k3⟩
  rw [List.getElem?_eq_getElem hkl, g2, g3]
end Go.Proofs.Ytccailcjclbhlaa
