/-
  What the reference's Flow, Room and flowLook return. Conditions: a right net of costs above 0; a flow.
-/
import Derived.Test.YtcehdpeeaogpiaaFlowM
import Derived.RegionTactic
namespace Go.Proofs.Ytcehdpeeaogpiaa
open Go.RowKit
set_option linter.unusedSimpArgs false
set_option linter.unusedVariables false
theorem esum_app (g : Nat → NE → Int) : ∀ (A B : List NE) (k : Nat), esum g (A ++ B) k = esum g A k + esum g B (k + A.length)
  | [], B, k => by simp [esum]
  | a :: r, B, k => by
    simp only [List.cons_append, esum, List.length_cons]
    rw [esum_app g r B (k + 1), show k + 1 + r.length = k + (r.length + 1) by omega]
    omega
theorem nes_take_len (es : List Ed) (j : Nat) (h : j ≤ es.length) : (nes (es.take j)).length = j := by simp [nes]; omega
theorem esum_take {g : Nat → NE → Int} {es : List Ed} {j : Nat} (h : j < es.length) {u v : Nat} {c : Int} (ht : nes (es.take (j + 1)) = nes (es.take j) ++ [⟨u, v, c⟩]) : esum g (nes (es.take (j + 1))) 0 = esum g (nes (es.take j)) 0 + g j ⟨u, v, c⟩ := by
  rw [ht, esum_app, nes_take_len es j (by omega)]
  simp [esum]
/-- what goes out of each place over the first j edges -/
def rfO (es : List Ed) (fl : Nat → Int) (j : Nat) : Nat → Int := fun x => esum (ov fl x) (nes (es.take j)) 0
theorem rfO_zero (es : List Ed) (fl : Nat → Int) : rfO es fl 0 = fun _ => 0 := by funext x; simp [rfO, nes, esum]
theorem rfO_step {es : List Ed} {fl : Nat → Int} {j : Nat} (h : j < es.length) {u v : Nat} {c : Int} (ht : nes (es.take (j + 1)) = nes (es.take j) ++ [⟨u, v, c⟩]) :
    upz (upz (rfO es fl j) u (rfO es fl j u + fl j)) v ((upz (rfO es fl j) u (rfO es fl j u + fl j)) v - fl j) = rfO es fl (j + 1) := by
  funext x
  have e : rfO es fl (j + 1) x = rfO es fl j x + ov fl x j ⟨u, v, c⟩ := esum_take h ht
  rw [e]
  have e2 : ov fl x j ⟨u, v, c⟩ = (if u = x then fl j else 0) - (if v = x then fl j else 0) := rfl
  rw [e2]
  by_cases hv : v = x
  · subst hv
    rw [upz_same, if_pos rfl]
    by_cases hu : u = v
    · subst hu; rw [upz_same, if_pos rfl]; omega
    · rw [upz_other _ _ (fun e => hu e.symm), if_neg hu]; omega
  · rw [upz_other _ _ (fun e => hv e.symm), if_neg hv]
    by_cases hu : u = x
    · subst hu; rw [upz_same, if_pos rfl]; omega
    · rw [upz_other _ _ (fun e => hu e.symm), if_neg hu]; omega
theorem rfO_all (es : List Ed) (fl : Nat → Int) (x : Nat) : rfO es fl es.length x = outv fl (nes es) x := by
  unfold rfO outv
  rw [List.take_length]
theorem rfO_bound {es : List Ed} {fl : Nat → Int} (hb : ∀ i, i < es.length → 0 ≤ fl i ∧ fl i ≤ 10000) (j : Nat) (hj : j ≤ es.length) (x : Nat) : -(10000 * (j : Int)) ≤ rfO es fl j x ∧ rfO es fl j x ≤ 10000 * (j : Int) := by
  have h1 : ∀ i e, (nes (es.take j))[i]? = some e → 0 ≤ fl i ∧ fl i ≤ 10000 := fun i e he => hb i (by
    have := (List.getElem?_eq_some_iff.1 he).1
    rw [nes_take_len es j hj] at this
    omega)
  have hl : ((nes (es.take j)).length : Int) = (j : Int) := by rw [nes_take_len es j hj]
  constructor
  · have := esum_le (g := fun _ _ => -10000) (h := ov fl x) (nes (es.take j)) 0 (fun i e he => by
      have := h1 i e he
      rw [Nat.zero_add]; unfold ov ifv; split <;> split <;> omega)
    rw [esum_const, hl] at this
    unfold rfO; omega
  · have := esum_le (g := ov fl x) (h := fun _ _ => 10000) (nes (es.take j)) 0 (fun i e he => by
      have := h1 i e he
      rw [Nat.zero_add]; unfold ov ifv; split <;> split <;> omega)
    rw [esum_const, hl] at this
    unfold rfO; omega
theorem flow_bds {es : List Ed} {n s t : Nat} {fl : Nat → Int} {sum : Int} (hes : Right n es) (h : FlowOk (nes es) n s t fl sum) : ∀ i (hi : i < es.length), 0 ≤ fl i ∧ fl i ≤ es[i].c ∧ es[i].c ≤ 10000 := fun i hi => by
  have := h.bd i _ (nes_get es i hi)
  exact ⟨this.1, this.2, (hes es[i] (List.getElem_mem hi)).2.2.2.2.2⟩
structure RFI (w0 : World) (n m : Nat) (a : Option Addr) (cap go : Nat) (f : Nat → Int) (wr : World) : Prop where
  c0 : wr.cell? ⟨w0.heap.size, 0, none⟩ = some (.int .i64 (n : Int))
  c1 : wr.cell? ⟨w0.heap.size, 1, none⟩ = some (.slice a m cap)
  oo : Own encI 1 3 wr (w0.heap.size + 1) (.slice (some ⟨go, 0, none⟩) n n) (LI n f)
  bel : Below w0.heap.size w0 wr
section
variable {w0 wr w' : World} {n m cap go : Nat} {a : Option Addr} {f : Nat → Int}
theorem RFI.stays (h : RFI w0 n m a cap go f wr) (hb : Below wr.heap.size wr w') : RFI w0 n m a cap go f w' :=
  ⟨cu_below hb h.c0 (cell_lt h.c0), cu_below hb h.c1 (cell_lt h.c1), h.oo.stays hb, h.bel.trans (hb.mono h.bel.size)⟩
theorem RFI.set (h : RFI w0 n m a cap go f wr) (i : Nat) (hi : i < n) (x : Int) : RFI w0 n m a cap go (upz f i x) (wr.setCell ⟨go, i, none⟩ (.int .i64 x)) := by
  have hl := h.oo.at_base
  exact ⟨cu_set h.c0 (by simp; omega), cu_set h.c1 (by simp; omega), h.oo.setI i hi x, h.bel.setCell (by simp; omega) _⟩
end
set_option maxRecDepth 100000 in
set_option maxHeartbeats 4000000 in
theorem rflow_any (n s t : Nat) (a af : Option Addr) (cap cf : Nat) (es : List Ed) (fl : Nat → Int) (sum : Int) (w : World) (B : Nat) (hB : B ≤ w.heap.size) (hE : Row encE 3 w B a es) (hF : Row encI 1 w B af (LI es.length fl)) (hn : n ≤ 64) (hl : es.length ≤ 600) (hes : Right n es) (hs : s < n) (hf : FlowOk (nes es) n s t fl sum) :
    Calls Try.prog 28 #[.agg #[.int .i64 (n : Int), .slice a es.length cap], .slice af es.length cf, .int .i64 (s : Int), .int .i64 (t : Int)] w fun e w' => e = .returned (.tuple #[.int .i64 sum, .bool true]) ∧ Below w.heap.size w w' := by
  have hbd := hide (flow_bds hes hf)
  have hbo := hide (rfO_bound (es := es) (fl := fl) (fun i hi => by have := hbd.out i hi; omega))
  have hrO := hide (rfO_all es fl)
  replace hE := hide hE
  replace hF := hide hF
  replace hes := hide hes
  have hcons := hide hf.cons
  have hval := hf.val
  rw [← hrO.out] at hval
  replace hval := hide hval
  clear hf
  have is : (0 : Int) ≤ (s : Int) ∧ (s : Int) < (n : Int) := by omega
  obtain ⟨m, hm⟩ : ∃ m, m = es.length := ⟨_, rfl⟩
  rw [← hm] at hl hF hrO hval ⊢
  have hmm : ((m : Int) != (m : Int)) = false := by simp
  replace hm := hide hm
  go_enter Try.func28, Try.ntmps28
  go_wp2_with (at_make; (refine wpList_mk (e := 3) (enc := encI) rfl (.tmp 22) 29 rfl (.int .i64 0) 8 (0 : Int) Try.underlying29 info_int rfl rfl (n) ?e11 ?e21 ?e31 ((w.heap.size + 1)) ?e41 ?_); (case e11 => rfl); (case e21 => omega); (case e31 => unfold maxLen; omega); (case e41 => first | omega | (simp; done) | (simp; omega)); intro w1 own1 hb1 hsz1; have hI1 : Hid (RFI w n m a cap (w.heap.size + 1) (rfO es fl 0) w1) := hide ⟨cu_below hb1 (by simp [go_sem]) (by simp), cu_below hb1 (by simp [go_sem]) (by simp), by have h3 := own1; rw [li_rep] at h3; rw [rfO_zero]; simpa using h3, (up_alloc (Below.refl _ _) (Nat.le_refl _)).trans (hb1.mono (by simp))⟩; have c1 := hI1.out.c1; have zw : w.heap.size < w1.heap.size := cell_lt c1; clear hsz1; replace own1 := hide own1; replace hb1 := hide hb1)
  obtain ⟨go, hgo⟩ : ∃ go, go = w.heap.size + 1 := ⟨_, rfl⟩
  rw [← hgo] at hI1
  simp only [← hgo]
  replace hgo := hide hgo
  clear own1 hb1 c1 zw
  go_loopw [27] (fun i wr => ∃ j : Nat, j ≤ m ∧ i = .int .i64 (j : Int) ∧ Hid (RFI w n m a cap go (rfO es fl j) wr)) (fun i _ => m - (intOf i).toNat)
  case atStart => exact ⟨0, Nat.zero_le _, rfl, hI1⟩
  case round =>
    clear hI1
    obtain ⟨j, hj, rfl, hI⟩ := hrel
    have hgl := hI.out.oo.at_base
    by_cases hlt : j < m
    · have hje : j < es.length := by rw [← hm.out]; exact hlt
      obtain ⟨u, v, e1', e2', e3, e4, e5, e6, htk⟩ := right_edge hes.out j hje
      obtain ⟨b, o, rfl, hbB, m1, m2, m3⟩ := hE.out.ed j hje
      have hbl := hI.out.bel
      have hbs := hbl.size
      rw [← hbl.cell (by simp; omega)] at m1 m2 m3
      rw [e1'] at m1
      rw [e2'] at m2
      obtain ⟨b4, o4, rfl, hb4, f0⟩ := hF.out.atI j hlt
      rw [← hbl.cell (by simp; omega)] at f0
      have hb0 := hbd.out j hje
      obtain ⟨ec, hec⟩ : ∃ ec, ec = es[j].c := ⟨_, rfl⟩
      rw [← hec] at m3 e5 e6 hb0 htk
      have hst := rfO_step (fl := fl) hje htk
      obtain ⟨x, hx⟩ : ∃ x, x = fl j := ⟨_, rfl⟩
      rw [← hx] at f0 hb0 hst
      have zb : b < wr.heap.size := by omega
      have zb4 : b4 < wr.heap.size := by omega
      have hB1 := hbo.out j (by omega) u
      have hB2 := hbo.out j (by omega) v
      have ij : (0 : Int) ≤ (j : Int) ∧ (j : Int) < (m : Int) := by omega
      have iu : (0 : Int) ≤ (u : Int) ∧ (u : Int) < (n : Int) := by omega
      have iv : (0 : Int) ≤ (v : Int) ∧ (v : Int) < (n : Int) := by omega
      have hx0 : ¬ x < 0 := by omega
      have hxc : ¬ ec < x := by omega
      replace hst := hide hst
      replace htk := hide htk
      replace hx := hide hx
      replace hec := hide hec
      replace e1' := hide e1'
      replace e2' := hide e2'
      replace hbl := hide hbl
      have hAl := hide (fun k => ((up_drewN (n := k) (up_alloc (Below.refl wr.heap.size wr) (Nat.le_refl _))) : Below wr.heap.size wr ((wr.alloc (.cells #[.int .i64 (u : Int), .int .i64 (v : Int), .int .i64 ec] 34)).drewN k)))
      obtain ⟨f, hfd⟩ : ∃ f, f = rfO es fl j := ⟨_, rfl⟩
      rw [← hfd] at hI hB1 hB2 hst
      replace hfd := hide hfd
      go_wp2
      go_quiet (fail)
      have hIq := hide (hI.out.stays (hAl.out nq))
      have hz : wr.heap.size < ((wr.alloc (.cells #[.int .i64 (u : Int), .int .i64 (v : Int), .int .i64 ec] 34)).drewN nq).heap.size := by simp
      have x0 : ((wr.alloc (.cells #[.int .i64 (u : Int), .int .i64 (v : Int), .int .i64 ec] 34)).drewN nq).cell? ⟨wr.heap.size, 0, none⟩ = some (.int .i64 (u : Int)) := cu_drewN (by simp [go_sem])
      have x1 : ((wr.alloc (.cells #[.int .i64 (u : Int), .int .i64 (v : Int), .int .i64 ec] 34)).drewN nq).cell? ⟨wr.heap.size, 1, none⟩ = some (.int .i64 (v : Int)) := cu_drewN (by simp [go_sem])
      have f1 := cu_below (hAl.out nq) f0 zb4
      clear m1 m2 m3 f0 hI hAl hbl
      generalize ((wr.alloc (.cells #[.int .i64 (u : Int), .int .i64 (v : Int), .int .i64 ec] 34)).drewN nq) = w4 at hIq x0 x1 f1 hz ⊢
      have zg4 := hIq.out.oo.at_base.2
      have zb5 := cell_lt f1
      simp only at zb5
      have d0 := hIq.out.oo.atI u e3
      have q0 := hIq.out.oo.free u
      have hI5 := hide ((hIq.out.set u e3 (f u + x)).stays (below_drew _))
      have f5 : ((w4.setCell ⟨go, u, none⟩ (.int .i64 (f u + x))).drew).cell? ⟨b4, o4 + j, none⟩ = some (.int .i64 x) := cu_drew (cu_set f1 (by simp; omega))
      have x5 : ((w4.setCell ⟨go, u, none⟩ (.int .i64 (f u + x))).drew).cell? ⟨wr.heap.size, 1, none⟩ = some (.int .i64 (v : Int)) := cu_drew (cu_set x1 (by simp; omega))
      have z5 : wr.heap.size < ((w4.setCell ⟨go, u, none⟩ (.int .i64 (f u + x))).drew).heap.size := cell_lt x5
      have hB3 : -(10000 * (j : Int)) - 10000 ≤ upz f u (f u + x) v ∧ upz f u (f u + x) v ≤ 10000 * (j : Int) + 10000 := by
        by_cases h : v = u
        · subst h; rw [upz_same]; omega
        · rw [upz_other _ _ h]; omega
      obtain ⟨y, hy⟩ : ∃ y, y = f u := ⟨_, rfl⟩
      rw [← hy] at d0 hI5 f5 x5 z5 hB1 hB3 hst
      have hw1 : IntKind.i64.wrap (y + x) = y + x := IntWalk.i64_in _ (by omega)
      replace hy := hide hy
      clear hIq
      go_wp2
      go_region
      clear d0 q0 f1 x0 x1 hz zg4 zb5
      generalize ((w4.setCell ⟨go, u, none⟩ (.int .i64 (y + x))).drew) = w5 at hI5 f5 x5 z5 ⊢
      have zg5 := hI5.out.oo.at_base.2
      have zb5 := cell_lt f5
      simp only at zb5
      have d0 := hI5.out.oo.atI v e4
      have q0 := hI5.out.oo.free v
      obtain ⟨y2, hy2⟩ : ∃ y2, y2 = upz f u (y + x) v := ⟨_, rfl⟩
      rw [← hy2] at d0 hB3
      have hI6 := hide (hI5.out.set v e4 (y2 - x))
      rw [show upz (upz f u (y + x)) v (y2 - x) = rfO es fl (j + 1) by rw [hy2]; exact hst.out] at hI6
      have hw2 : IntKind.i64.wrap (y2 - x) = y2 - x := IntWalk.i64_in _ (by omega)
      replace hy2 := hide hy2
      clear hI5
      go_wp2
      go_region
      go_wp2
      go_roundw
      case rel => exact ⟨j + 1, by omega, by go_num, by first | exact hI6 | exact hide (hI6.out.stays (below_drew _))⟩
      case measure => simp [intOf]; omega
    · obtain rfl : m = j := by omega
      obtain ⟨wo, hwo⟩ : ∃ wo : World, wo = wr := ⟨_, rfl⟩
      simp only [← hwo] at hI hgl ⊢
      clear hwo
      have dS := hI.out.oo.atI s hs
      rw [hval.out] at dS
      have zg := hI.out.oo.at_base.2
      have hout := hide (show ∀ x, x < n → rfO es fl m x = outv fl (nes es) x from fun x _ => hrO.out x)
      go_wp2
      go_loopw [71] (fun i wr => ∃ k : Nat, k ≤ n ∧ i = .int .i64 (k : Int) ∧ Hid (Below wo.heap.size wo wr) ∧ Hid (∃ c, wr = wo.drewN c)) (fun i _ => n - (intOf i).toNat)
      case atStart => exact ⟨0, Nat.zero_le _, rfl, hide (Below.refl _ _), hide ⟨0, rfl⟩⟩
      case round =>
        obtain ⟨k, hk, rfl, hb, hdr⟩ := hrel
        have hnx := hide (show ∀ c, (Below wo.heap.size wo (wr.drewN c)) ∧ ∃ d, wr.drewN c = wo.drewN d from fun c => ⟨up_drewN hb.out, by obtain ⟨d, rfl⟩ := hdr.out; exact ⟨d + c, by rw [World.drewN_drewN]⟩⟩)
        have dS2 := cu_below hb.out dS zg
        have zr := hb.out.size
        by_cases hlt : k < n
        · have dk := cu_below hb.out (hI.out.oo.atI k hlt) zg
          have ik : (0 : Int) ≤ (k : Int) ∧ (k : Int) < (n : Int) := by omega
          by_cases hks : k = s
          · have q1 : ((k : Int) != (s : Int)) = false := by simp [hks]
            generalize rfO es fl m k = y at dk
            replace hks := hide hks
            clear dS dS2
            go_wp2
            go_roundw
            case rel => exact ⟨k + 1, by omega, by go_num, hb, hdr⟩
            case measure => simp [intOf]; omega
          · have q1 : ((k : Int) != (s : Int)) = true := by simp; omega
            by_cases hkt : k = t
            · have q2 : ((k : Int) != (t : Int)) = false := by simp [hkt]
              generalize rfO es fl m k = y at dk
              replace hkt := hide hkt
              clear dS dS2
              go_wp2
              go_roundw
              case rel => exact ⟨k + 1, by omega, by go_num, hb, hdr⟩
              case measure => simp [intOf]; omega
            · have q2 : ((k : Int) != (t : Int)) = true := by simp; omega
              rw [hout.out k hlt, hcons.out k hlt hks hkt] at dk
              clear dS dS2
              go_wp2
              go_roundw
              case rel => exact ⟨k + 1, by omega, by go_num, hb, hdr⟩
              case measure => simp [intOf]; omega
        · obtain rfl : n = k := by omega
          have hfin := hide (hI.out.bel.trans (hb.out.mono hI.out.bel.size))
          go_wp2
          go_ret2
          exact ⟨rfl, hfin.out⟩
def rmO (es : List Ed) (S : Nat → Bool) (j : Nat) : Int := esum (fun _ e => ifv (S e.u = true ∧ S e.v = false) e.c) (nes (es.take j)) 0
theorem rmO_zero (es : List Ed) (S : Nat → Bool) : rmO es S 0 = 0 := by simp [rmO, nes, esum]
theorem rmO_all (es : List Ed) (S : Nat → Bool) : rmO es S es.length = roomS (nes es) S := by unfold rmO roomS; rw [List.take_length]
theorem rmO_bound {es : List Ed} {S : Nat → Bool} (hb : ∀ e ∈ es, 1 ≤ e.c ∧ e.c ≤ 10000) (j : Nat) (hj : j ≤ es.length) : 0 ≤ rmO es S j ∧ rmO es S j ≤ 10000 * (j : Int) := by
  have hl : ((nes (es.take j)).length : Int) = (j : Int) := by rw [nes_take_len es j hj]
  have h1 : ∀ (i : Nat) (e : NE), (nes (es.take j))[i]? = some e → 1 ≤ e.c ∧ e.c ≤ 10000 := fun i e he => by
    obtain ⟨x, hx, rfl⟩ := nes_mem (List.mem_of_getElem? he)
    exact hb x (List.mem_of_mem_take hx)
  constructor
  · have := esum_le (g := fun _ _ => 0) (h := fun _ e => ifv (S e.u = true ∧ S e.v = false) e.c) (nes (es.take j)) 0 (fun i e he => by
      have := h1 i e he
      unfold ifv; split <;> omega)
    rw [esum_const] at this
    unfold rmO; omega
  · have := esum_le (g := fun _ e => ifv (S e.u = true ∧ S e.v = false) e.c) (h := fun _ _ => 10000) (nes (es.take j)) 0 (fun i e he => by
      have := h1 i e he
      unfold ifv; split <;> omega)
    rw [esum_const, hl] at this
    unfold rmO; omega
theorem Row.atRB {w : World} {B : Nat} {a : Option Addr} {n : Nat} {f : Nat → Bool} (h : Row encB 1 w B a (RW n f)) (i : Nat) (hi : i < n) : ∃ b o, a = some ⟨b, o, none⟩ ∧ b < B ∧ w.cell? ⟨b, o + i, none⟩ = some (.bool (f i)) := by
  obtain ⟨b, o, h1, h2, h3⟩ := h.bool i (by rw [rw_len]; exact hi)
  rw [rw_get] at h3
  exact ⟨b, o, h1, h2, h3⟩
set_option maxRecDepth 100000 in
set_option maxHeartbeats 4000000 in
theorem rroom_any (n : Nat) (a ab : Option Addr) (cap cb : Nat) (es : List Ed) (S : Nat → Bool) (w : World) (B : Nat) (hB : B ≤ w.heap.size) (hE : Row encE 3 w B a es) (hF : Row encB 1 w B ab (RW n S)) (hl : es.length ≤ 600) (hes : Right n es) (hpos : ∀ e ∈ es, 1 ≤ e.c) :
    Calls Try.prog 29 #[.agg #[.int .i64 (n : Int), .slice a es.length cap], .slice ab n cb] w fun e w' => e = .returned (.int .i64 (roomS (nes es) S)) ∧ Below w.heap.size w w' := by
  have hbo := hide (rmO_bound (es := es) (S := S) (fun e he => ⟨hpos e he, (hes e he).2.2.2.2.2⟩))
  replace hE := hide hE
  replace hF := hide hF
  replace hes := hide hes
  replace hpos := hide hpos
  rw [← rmO_all]
  obtain ⟨m, hm⟩ : ∃ m, m = es.length := ⟨_, rfl⟩
  rw [← hm] at hl ⊢
  replace hm := hide hm
  go_enter Try.func29, Try.ntmps29
  go_wp2
  go_loopw [5, 11] (fun s5 i wr => ∃ j : Nat, j ≤ m ∧ i = .int .i64 (j : Int) ∧ s5 = .int .i64 (rmO es S j) ∧ Hid (Below w.heap.size w wr)) (fun _ i _ => m - (intOf i).toNat)
  case atStart => exact ⟨0, Nat.zero_le _, rfl, by rw [rmO_zero], hide (by repeat (first | with_reducible exact Below.refl _ _ | with_reducible assumption | with_reducible refine up_drewN ?_ | with_reducible refine up_drew ?_ | (with_reducible refine up_alloc ?_ ?_; rotate_left; (first | omega | (simp <;> omega) | simp)) | (with_reducible refine up_set ?_ ?_; rotate_left; (first | omega | (simp <;> omega) | simp)) | (with_reducible refine Below.trans ?_ (Below.mono (by with_reducible assumption) ?_); rotate_left; (first | omega | (simp <;> omega) | simp))))⟩
  case round =>
    obtain ⟨j, hj, rfl, rfl, hb⟩ := hrel
    by_cases hlt : j < m
    · have hje : j < es.length := by rw [← hm.out]; exact hlt
      obtain ⟨u, v, e1', e2', e3, e4, e5, e6, htk⟩ := right_edge hes.out j hje
      obtain ⟨b, o, rfl, hbB, m1, m2, m3⟩ := hE.out.ed j hje
      have hbs := hb.out.size
      rw [← hb.out.cell (by simp; omega)] at m1 m2 m3
      rw [e1'] at m1
      rw [e2'] at m2
      obtain ⟨b4, o4, rfl, hb4, f0⟩ := hF.out.atRB u e3
      obtain ⟨b5, o5, hbe, hb5, f1⟩ := hF.out.atRB v e4
      simp only [Option.some.injEq, Addr.mk.injEq] at hbe
      obtain ⟨rfl, rfl, -⟩ := hbe
      rw [← hb.out.cell (by simp; omega)] at f0 f1
      obtain ⟨ec, hec⟩ : ∃ ec, ec = es[j].c := ⟨_, rfl⟩
      rw [← hec] at m3 e5 e6 htk
      have hst : rmO es S (j + 1) = rmO es S j + ifv (S u = true ∧ S v = false) ec := esum_take hje htk
      have hB1 := hbo.out j (by omega)
      obtain ⟨y, hy⟩ : ∃ y, y = rmO es S j := ⟨_, rfl⟩
      rw [← hy] at hB1 hst ⊢
      have hw1 : IntKind.i64.wrap (y + ec) = y + ec := IntWalk.i64_in _ (by omega)
      have zb : b < wr.heap.size := by omega
      have zb4 : b4 < wr.heap.size := by omega
      have ij : (0 : Int) ≤ (j : Int) ∧ (j : Int) < (m : Int) := by omega
      have iu : (0 : Int) ≤ (u : Int) ∧ (u : Int) < (n : Int) := by omega
      have iv : (0 : Int) ≤ (v : Int) ∧ (v : Int) < (n : Int) := by omega
      have hb2 := hide (hb.out.alloc hbs (.cells #[.int .i64 (u : Int), .int .i64 (v : Int), .int .i64 ec] 34))
      replace htk := hide htk
      replace hec := hide hec
      replace e1' := hide e1'
      replace e2' := hide e2'
      replace hy := hide hy
      cases hsu : S u with
      | false =>
        have hst2 := hide (show y = rmO es S (j + 1) by rw [hst, hsu]; simp [ifv])
        rw [hsu] at f0
        generalize S v = sv at f1 hst
        replace hst := hide hst
        clear hsu
        go_wp2
        go_roundw
        case rel => exact ⟨j + 1, by omega, by go_num, by rw [hst2.out], hb2⟩
        case measure => simp [intOf]; omega
      | true =>
        rw [hsu] at f0
        cases hsv : S v with
        | true =>
          have hst2 := hide (show y = rmO es S (j + 1) by rw [hst, hsu, hsv]; simp [ifv])
          rw [hsv] at f1
          replace hst := hide hst
          clear hsu hsv
          go_wp2
          go_roundw
          case rel => exact ⟨j + 1, by omega, by go_num, by rw [hst2.out], hb2⟩
          case measure => simp [intOf]; omega
        | false =>
          have hst2 := hide (show y + ec = rmO es S (j + 1) by rw [hst, hsu, hsv]; simp [ifv])
          rw [hsv] at f1
          replace hst := hide hst
          clear hsu hsv
          go_wp2
          go_roundw
          case rel => exact ⟨j + 1, by omega, by go_num, by rw [hst2.out], hb2⟩
          case measure => simp [intOf]; omega
    · obtain rfl : m = j := by omega
      go_wp2
      go_ret
      exact ⟨rfl, hb.out⟩
set_option maxHeartbeats 1000000 in
theorem rflook_any (N : Int) (a : Option Addr) (cap : Nat) (es : List Ed) (x1 x2 : Int) (w : World) (B : Nat) (hB : B ≤ w.heap.size) (hE : Row encE 3 w B a es) (hl : es.length ≤ 9223372036854775807) :
    Calls Try.prog 27 #[.agg #[.int .i64 N, .slice a es.length cap], .int .i64 x1, .int .i64 x2] w fun e w' => e = .returned (.int .i64 (flookErr N es x1 x2)) ∧ Below w.heap.size w w' := by
  have hL := hide (fun (b : Nat) (w : World) (hE : Row encE 3 w w.heap.size a es) (hP : Row encI 1 w w.heap.size (some ⟨b, 0, none⟩) [x1, x2]) => rlook_any N a cap es (some ⟨b, 0, none⟩) 2 2 [x1, x2] rfl w w.heap.size (Nat.le_refl _) hE hP hl (by omega))
  have hrow := hide (fun (w' : World) (hb : Below w.heap.size w w') => (hE.below hb hB).mono (Nat.le_trans hB hb.size))
  clear hE
  obtain ⟨er, her⟩ : ∃ er, er = lookErr N es [x1, x2] := ⟨_, rfl⟩
  have hfin := hide (show flookErr N es x1 x2 = if er ≠ 0 then er else if x1 = x2 then 1 else 0 by unfold flookErr; rw [her])
  rw [← her] at hL
  replace her := hide her
  by_cases h0 : er = 0
  · subst h0
    by_cases h12 : x1 = x2
    · subst h12
      have q1 : (x1 == x1) = true := by simp
      have hf2 := hide (show flookErr N es x1 x1 = 1 by rw [hfin.out]; simp)
      clear hfin
      go_enter Try.func27, Try.ntmps27
      go_wp2_with fail
      refine Calls.mono (hL.out _ _ (hrow.out _ (by exact (by repeat (first | with_reducible exact Below.refl _ _ | with_reducible assumption | with_reducible refine up_drewN ?_ | with_reducible refine up_drew ?_ | (with_reducible refine up_alloc ?_ ?_; rotate_left; (first | omega | (simp <;> omega) | simp)) | (with_reducible refine up_set ?_ ?_; rotate_left; (first | omega | (simp <;> omega) | simp)) | (with_reducible refine Below.trans ?_ (Below.mono (by with_reducible assumption) ?_); rotate_left; (first | omega | (simp <;> omega) | simp)))))) (row2f (by simp [go_sem]) (by simp [go_sem]))) ?_
      rintro e w1 ⟨rfl, hb1⟩
      have hb2 := hide ((((by repeat (first | with_reducible exact Below.refl _ _ | with_reducible assumption | with_reducible refine up_drewN ?_ | with_reducible refine up_drew ?_ | (with_reducible refine up_alloc ?_ ?_; rotate_left; (first | omega | (simp <;> omega) | simp)) | (with_reducible refine up_set ?_ ?_; rotate_left; (first | omega | (simp <;> omega) | simp)) | (with_reducible refine Below.trans ?_ (Below.mono (by with_reducible assumption) ?_); rotate_left; (first | omega | (simp <;> omega) | simp)))) : Below w.heap.size w _)).trans (hb1.mono (by simp; omega)))
      clear hb1
      go_wp2
      go_ret
      exact ⟨ret_int hf2.out.symm, hb2.out⟩
    · have q1 : (x1 == x2) = false := by simp [h12]
      have hf2 := hide (show flookErr N es x1 x2 = 0 by rw [hfin.out]; simp [h12])
      clear hfin
      go_enter Try.func27, Try.ntmps27
      go_wp2_with fail
      refine Calls.mono (hL.out _ _ (hrow.out _ (by exact (by repeat (first | with_reducible exact Below.refl _ _ | with_reducible assumption | with_reducible refine up_drewN ?_ | with_reducible refine up_drew ?_ | (with_reducible refine up_alloc ?_ ?_; rotate_left; (first | omega | (simp <;> omega) | simp)) | (with_reducible refine up_set ?_ ?_; rotate_left; (first | omega | (simp <;> omega) | simp)) | (with_reducible refine Below.trans ?_ (Below.mono (by with_reducible assumption) ?_); rotate_left; (first | omega | (simp <;> omega) | simp)))))) (row2f (by simp [go_sem]) (by simp [go_sem]))) ?_
      rintro e w1 ⟨rfl, hb1⟩
      have hb2 := hide ((((by repeat (first | with_reducible exact Below.refl _ _ | with_reducible assumption | with_reducible refine up_drewN ?_ | with_reducible refine up_drew ?_ | (with_reducible refine up_alloc ?_ ?_; rotate_left; (first | omega | (simp <;> omega) | simp)) | (with_reducible refine up_set ?_ ?_; rotate_left; (first | omega | (simp <;> omega) | simp)) | (with_reducible refine Below.trans ?_ (Below.mono (by with_reducible assumption) ?_); rotate_left; (first | omega | (simp <;> omega) | simp)))) : Below w.heap.size w _)).trans (hb1.mono (by simp; omega)))
      clear hb1
      go_wp2
      go_ret
      exact ⟨ret_int hf2.out.symm, hb2.out⟩
  · have q0 : (er != 0) = true := by simp [h0]
    have hf2 := hide (show flookErr N es x1 x2 = er by rw [hfin.out]; simp [h0])
    clear hfin h0
    go_enter Try.func27, Try.ntmps27
    go_wp2_with fail
    refine Calls.mono (hL.out _ _ (hrow.out _ (by exact (by repeat (first | with_reducible exact Below.refl _ _ | with_reducible assumption | with_reducible refine up_drewN ?_ | with_reducible refine up_drew ?_ | (with_reducible refine up_alloc ?_ ?_; rotate_left; (first | omega | (simp <;> omega) | simp)) | (with_reducible refine up_set ?_ ?_; rotate_left; (first | omega | (simp <;> omega) | simp)) | (with_reducible refine Below.trans ?_ (Below.mono (by with_reducible assumption) ?_); rotate_left; (first | omega | (simp <;> omega) | simp)))))) (row2f (by simp [go_sem]) (by simp [go_sem]))) ?_
    rintro e w1 ⟨rfl, hb1⟩
    have hb2 := hide ((((by repeat (first | with_reducible exact Below.refl _ _ | with_reducible assumption | with_reducible refine up_drewN ?_ | with_reducible refine up_drew ?_ | (with_reducible refine up_alloc ?_ ?_; rotate_left; (first | omega | (simp <;> omega) | simp)) | (with_reducible refine up_set ?_ ?_; rotate_left; (first | omega | (simp <;> omega) | simp)) | (with_reducible refine Below.trans ?_ (Below.mono (by with_reducible assumption) ?_); rotate_left; (first | omega | (simp <;> omega) | simp)))) : Below w.heap.size w _)).trans (hb1.mono (by simp; omega)))
    clear hb1
    go_wp2
    go_ret
    exact ⟨ret_int hf2.out.symm, hb2.out⟩
end Go.Proofs.Ytcehdpeeaogpiaa
