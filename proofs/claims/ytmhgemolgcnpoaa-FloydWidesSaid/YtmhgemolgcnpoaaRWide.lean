/-
  What the reference's Wide returns. Conditions: a right net.
-/
import Derived.Test.YtmhgemolgcnpoaaRReachW
import Derived.Test.YtmhgemolgcnpoaaROut
import Derived.Test.YtmhgemolgcnpoaaTabs
namespace Go.Proofs.Ytmhgemolgcnpoaa
open Go.RowKit
set_option linter.unusedSimpArgs false
set_option linter.unusedVariables false
/-- the rows: how wide from each place -/
def wideRows (n : Nat) (es : List Ed) (k : Nat) : List (List Int) := (List.range k).map fun v => LI n (wideRow (nes es) n v)
theorem wideRows_len (n : Nat) (es : List Ed) (k : Nat) : (wideRows n es k).length = k := by simp [wideRows]
theorem wideRows_succ (n : Nat) (es : List Ed) (k : Nat) : wideRows n es (k + 1) = wideRows n es k ++ [LI n (wideRow (nes es) n k)] := by simp [wideRows, List.range_succ]
/-- a row by the first k places that are so -/
def partW (f : Nat → Int) (g : Nat → Bool) (c : Int) (k : Nat) : Nat → Int := fun u => if u < k ∧ g u = true then max (f u) c else f u
theorem partW_zero (f : Nat → Int) (g : Nat → Bool) (c : Int) : partW f g c 0 = f := by funext u; simp [partW]
theorem partW_hit {f : Nat → Int} {g : Nat → Bool} {c : Int} {k : Nat} (h : g k = true) : upz (partW f g c k) k (max (partW f g c k k) c) = partW f g c (k + 1) := by
  funext u
  simp only [upz, partW]
  by_cases e : u = k
  · subst e; simp [h]
  · rw [if_neg e]
    by_cases hu : u < k
    · have : u < k + 1 := by omega
      simp [hu, this]
    · have : ¬ u < k + 1 := by omega
      simp [hu, this]
theorem partW_miss {f : Nat → Int} {g : Nat → Bool} {c : Int} {k : Nat} (h : g k = false) : partW f g c k = partW f g c (k + 1) := by
  funext u
  simp only [partW]
  by_cases e : u = k
  · subst e; simp [h]
  · by_cases hu : u < k
    · have : u < k + 1 := by omega
      simp [hu, this]
    · have : ¬ u < k + 1 := by omega
      simp [hu, this]
def TabRet (rows : List (List Int)) (m n : Nat) (w : World) (e : Ending) (w' : World) : Prop := ∃ a c, e = .returned (.slice a m c) ∧ Tab w' w'.heap.size a n rows ∧ Below w.heap.size w w'
/-- what holds while a row of Wide is made -/
def VInv (w wi : World) (n : Nat) (a : Option Addr) (len cap g : Nat) (f : Nat → Int) (wr : World) : Prop :=
  wr.cell? ⟨w.heap.size, 0, none⟩ = some (.int .i64 (n : Int)) ∧ wr.cell? ⟨w.heap.size, 1, none⟩ = some (.slice a len cap) ∧ Own encI 1 3 wr wi.heap.size (.slice (some ⟨g, 0, none⟩) n n) (LI n f) ∧ Below wi.heap.size wi wr
section
variable {w wi : World} {n : Nat} {a : Option Addr} {len cap g : Nat} {f : Nat → Int} {wr : World}
theorem VInv.later (h : VInv w wi n a len cap g f wr) {wr' : World} (hb : Below wr.heap.size wr wr') : VInv w wi n a len cap g f wr' := ⟨(hb.cell (cell_lt h.1)).trans h.1, (hb.cell (cell_lt h.2.1)).trans h.2.1, h.2.2.1.below hb (Nat.le_refl _), h.2.2.2.trans (hb.mono h.2.2.2.size)⟩
theorem VInv.alloc (h : VInv w wi n a len cap g f wr) (o : Obj) : VInv w wi n a len cap g f (wr.alloc o) := h.later ((Below.refl _ _).alloc (Nat.le_refl _) o)
theorem VInv.drew (h : VInv w wi n a len cap g f wr) : VInv w wi n a len cap g f wr.drew := ⟨h.1, h.2.1, h.2.2.1, h.2.2.2.drew⟩
theorem VInv.drewN (h : VInv w wi n a len cap g f wr) (m : Nat) : VInv w wi n a len cap g f (wr.drewN m) := ⟨h.1, h.2.1, h.2.2.1, up_drewN h.2.2.2⟩
theorem VInv.set (h : VInv w wi n a len cap g f wr) (hw : w.heap.size < wi.heap.size) (i : Nat) (hi : i < n) (x : Int) : VInv w wi n a len cap g (upz f i x) (wr.setCell ⟨g, i, none⟩ (.int .i64 x)) :=
  have hg := h.2.2.1.at_base
  ⟨cu_set h.1 (by simp; omega), cu_set h.2.1 (by simp; omega), h.2.2.1.setI i hi x, h.2.2.2.setCell (by simp; omega) _⟩
end
set_option maxRecDepth 100000 in
set_option maxHeartbeats 4000000 in
theorem rwide_any (n : Nat) (a : Option Addr) (cap : Nat) (es : List Ed) (w : World) (B : Nat) (hB : B ≤ w.heap.size) (hE : Row encE 3 w B a es) (hn1 : 1 ≤ n) (hn : n ≤ 64) (hl : es.length ≤ 600) (hes : Right n es) :
    Calls Try.prog 18 #[.agg #[.int .i64 (n : Int), .slice a es.length cap]] w (TabRet (wideRows n es n) n n w) := by
  replace hE := hide hE
  replace hes := hide hes
  go_enter Try.func18, Try.ntmps18
  go_wp2
  go_loopw [3, 4, 5, 6, 8, 9, 10, 13] (fun s3 _ _ _ _ _ _ i wr => ∃ (k : Nat) (av : Option Addr) (cv : Nat) (ts : List S3), k ≤ n ∧ i = .int .i64 k ∧ s3 = .slice av k cv ∧ Hid (ROut 33 wr (w.heap.size + 1) (.slice av k cv) n ts (wideRows n es k)) ∧ wr.cell? ⟨w.heap.size, 0, none⟩ = some (.int .i64 (n : Int)) ∧ wr.cell? ⟨w.heap.size, 1, none⟩ = some (.slice a es.length cap) ∧ Hid (Below w.heap.size w wr)) (fun _ _ _ _ _ _ _ i _ => n - (intOf i).toNat)
  case atStart => exact ⟨0, none, 0, [], Nat.zero_le _, rfl, rfl, ROut.nil _ _ _ _, by simp [go_sem], by simp [go_sem], hide (by repeat (first | with_reducible exact Below.refl _ _ | with_reducible assumption | with_reducible refine up_drewN ?_ | with_reducible refine up_drew ?_ | (with_reducible refine up_alloc ?_ ?_; rotate_left; (first | omega | (simp <;> omega) | simp)) | (with_reducible refine up_set ?_ ?_; rotate_left; (first | omega | (simp <;> omega) | simp)) | (with_reducible refine Below.trans ?_ (Below.mono (by with_reducible assumption) ?_); rotate_left; (first | omega | (simp <;> omega) | simp))))⟩
  case round =>
    obtain ⟨k, av, cv, ts, hk, rfl, rfl, hR, k0, k1, hb⟩ := hrel
    have hbl := cell_lt k0
    by_cases hlt : k < n
    · obtain ⟨wi, rfl⟩ : ∃ wi : World, wi = wr := ⟨_, rfl⟩
      go_wp2_with (at_make; (refine wpList_mk (e := 3) (enc := encI) rfl (.tmp 17) 33 rfl (.int .i64 0) 8 (0 : Int) Try.underlying33 info_int rfl rfl (n) ?e11 ?e21 ?e31 (wi.heap.size) ?e41 ?_); (case e11 => rfl); (case e21 => omega); (case e31 => unfold maxLen; omega); (case e41 => first | omega | (simp; done) | (simp; omega)); intro w1 own1 hb1 hsz1; have hI0 := hide (show VInv w wi n a es.length cap wi.heap.size (fun _ => 0) w1 from ⟨(hb1.cell hbl).trans k0, (hb1.cell (cell_lt k1)).trans k1, by rw [← li_rep]; exact own1, hb1⟩); replace own1 := hide own1; replace hb1 := hide hb1)
      clear k0 k1
      go_loopw [6, 21] (fun _ i wr => ∃ (j : Nat), j ≤ n ∧ i = .int .i64 j ∧ Hid (VInv w wi n a es.length cap wi.heap.size (first j (fun _ => -FAR) (fun _ => 0)) wr)) (fun _ i _ => n - (intOf i).toNat)
      case atStart => exact ⟨0, Nat.zero_le _, rfl, by rw [first_zero]; exact hI0⟩
      case round =>
        obtain ⟨j, hj, rfl, hI⟩ := hrel
        clear hI0
        have q2 := hI.out.2.2.1.free
        have q3 := hI.out.2.2.1.at_base.2
        by_cases hjl : j < n
        · have c0 := hI.out.2.2.1.atI j hjl
          have hI2 := hI.out.set hbl j hjl (-FAR)
          rw [first_step j (fun _ => -FAR) (fun _ => 0)] at hI2
          replace hI2 := hide hI2
          go_wp2
          go_roundw
          case rel => exact ⟨j + 1, by omega, by go_num, hI2⟩
          case measure => simp [intOf]; omega
        · obtain rfl : n = j := by omega
          have hI1 : Hid (VInv w wi n a es.length cap wi.heap.size (fun _ => -FAR) wr) := by
            have h := hI.out
            refine ⟨h.1, h.2.1, ?_, h.2.2.2⟩
            rw [← first_all n (fun _ => -FAR) (fun _ => 0)]
            exact h.2.2.1
          obtain ⟨wo, rfl⟩ : ∃ wo : World, wo = wr := ⟨_, rfl⟩
          have c1 := hI1.out.2.1
          clear hI own1 hb1 hjl hj q2 q3
          go_wp2
          clear c1
          go_loopw [8, 9, 10, 31] (fun _ _ _ i wr => ∃ (j : Nat) (f : Nat → Int), j ≤ es.length ∧ i = .int .i64 j ∧ Hid (∀ v, v < n → f v = (nes (es.take j)).foldl (wideStep (nes es) n k) (fun _ => -FAR) v) ∧ Hid (VInv w wi n a es.length cap wi.heap.size f wr)) (fun _ _ _ i _ => es.length - (intOf i).toNat)
          case atStart => exact ⟨0, _, Nat.zero_le _, rfl, fun _ _ => rfl, hI1⟩
          case round =>
            obtain ⟨j, f, hj, rfl, hf, hI⟩ := hrel
            clear hI1
            by_cases hjl : j < es.length
            · obtain ⟨b, o, rfl, hbB, e0, e1, e2⟩ := hE.out.ed j hjl
              have hbb := hI.out.2.2.2
              have hbw := hb.out.size
              rw [← hb.out.cell (by simp; omega), ← hbb.cell (by simp; omega)] at e0 e1 e2
              obtain ⟨u, v, hu, hv, hun, hvn, hc1, hc2, hnt⟩ := right_edge hes.out j hjl
              rw [hu] at e0
              rw [hv] at e1
              obtain ⟨cc, hcc⟩ : ∃ x, x = es[j].c := ⟨_, rfl⟩
              rw [← hcc] at e2 hc1 hc2 hnt
              have hbs := hbb.size
              have hbl2 : b < wr.heap.size := by omega
              replace hcc := hide hcc
              replace hnt := hide hnt
              have hEr := hide (((hE.out.below hb.out hB).below hbb (by omega)))
              have c0 := hI.out.1
              have c1 := hI.out.2.1
              have hzw : w.heap.size < wr.heap.size := by omega
              clear hu hv hbb
              go_wp2_with fail
              refine (rreachW_any wr.heap.size cc n (some ⟨b, o, none⟩) cap es k _ (by simp [go_sem]) B (by simp; omega) (hEr.out.below (up_alloc (Below.refl _ _) (Nat.le_refl _) : Below wr.heap.size wr _) (by omega)) hn1 hn hl hes.out hlt).mono ?_
              rintro e w3 ⟨g3, rfl, own3, hb3⟩
              have hI3 := hide ((hI.out.alloc _).later hb3)
              have hcw3 : w3.cell? ⟨wr.heap.size, 2, none⟩ = some (.int .i64 cc) := (hb3.cell (by simp)).trans (by simp [go_sem])
              obtain ⟨R, hRR⟩ : ∃ R, R = rreach (nes es) (geE cc) (only k) n := ⟨_, rfl⟩
              rw [← hRR] at own3
              have hstep := hide (show ∀ x, x < n → partW f R cc n x = (nes (es.take (j + 1))).foldl (wideStep (nes es) n k) (fun _ => -FAR) x by
                intro x hx
                rw [hnt.out, List.foldl_append]
                have h1 := hf.out x hx
                show partW f R cc n x = if rreach (nes es) (geE cc) (only k) n x = true then max (((nes (es.take j)).foldl (wideStep (nes es) n k) (fun _ => -FAR)) x) cc else ((nes (es.take j)).foldl (wideStep (nes es) n k) (fun _ => -FAR)) x
                rw [← h1, ← hRR]
                simp only [partW, hx, true_and])
              replace hRR := hide hRR
              have hown3 := hide (own3.base_le (show wi.heap.size ≤ _ by have := hI.out.2.2.2.size; simp; omega))
              obtain ⟨wu, rfl⟩ : ∃ wu : World, wu = wr := ⟨_, rfl⟩
              have hg3 : wi.heap.size ≠ g3 := by have h1 := own3.at_base.1; have h2 := hI.out.2.2.1.at_base.2; simp at h1; omega
              have hg4 : wi.heap.size ≠ wu.heap.size := by have h2 := hI.out.2.2.1.at_base.2; omega
              clear own3 e0 e1 e2 c0 c1 hb3
              go_wp2
              go_loopw [9, 10, 40] (fun _ _ i wr => ∃ (x : Nat), x ≤ n ∧ i = .int .i64 x ∧ Hid (VInv w wi n (some ⟨b, o, none⟩) es.length cap wi.heap.size (partW f R cc x) wr) ∧ Hid (Own encB 1 4 wr wi.heap.size (.slice (some ⟨g3, 0, none⟩) n n) (RW n R)) ∧ wr.cell? ⟨wu.heap.size, 2, none⟩ = some (.int .i64 cc)) (fun _ _ i _ => n - (intOf i).toNat)
              case atStart => exact ⟨0, Nat.zero_le _, rfl, by rw [partW_zero]; exact hI3, hown3, hcw3⟩
              case round =>
                obtain ⟨x, hx, rfl, hJ, hO, hcx⟩ := hrel
                clear hI3 hown3 hcw3
                by_cases hxl : x < n
                · have d0 := hO.out.getB x (by rw [rw_len]; exact hxl)
                  rw [rw_get] at d0
                  have d1 := hJ.out.2.2.1.atI x hxl
                  have q1 := hJ.out.2.2.1.free
                  have q3 := hJ.out.2.2.1.at_base.2
                  have i1 : (0 : Int) ≤ (x : Int) ∧ (x : Int) < (n : Int) := by omega
                  obtain ⟨y, hy⟩ : ∃ y, y = partW f R cc x x := ⟨_, rfl⟩
                  rw [← hy] at d1
                  cases hRx : R x with
                  | true =>
                    have hp := hide (partW_hit (f := f) (c := cc) hRx)
                    rw [← hy] at hp
                    rw [hRx] at d0
                    replace hy := hide hy
                    clear hRx
                    rcases Int.lt_or_le y cc with hyc | hyc
                    · have hm := hide (show max y cc = cc by omega)
                      go_wp2
                      go_region
                      go_wp2
                      go_roundw
                      case rel =>
                        refine ⟨x + 1, by omega, by go_num, ?_, ?_, ?_⟩
                        · rw [← hp.out, hm.out]
                          exact hide (by repeat (first | with_reducible exact hJ.out | with_reducible refine VInv.drew ?_ | with_reducible refine VInv.drewN ?_ _ | with_reducible refine VInv.alloc ?_ _ | with_reducible refine VInv.set ?_ hbl _ hxl _))
                        · exact hide ((hO.out.elsewhere (by simp [Value.ownBlock]; omega) _).drew)
                        · exact (by repeat (first | with_reducible assumption | with_reducible refine cu_drew ?_ | with_reducible refine cu_drewN ?_ | with_reducible refine cu_alloc ?_ | (with_reducible refine cu_set ?_ ?_; rotate_left; (first | with_reducible assumption | omega | (simp <;> omega) | simp)) | with_reducible refine fu_drew ?_ | with_reducible refine fu_drewN ?_ | with_reducible refine fu_alloc ?_ | with_reducible refine fu_set ?_))
                      case measure => simp [intOf]; omega
                    · have hm := hide (show max y cc = y by omega)
                      go_wp2
                      go_region
                      go_wp2
                      go_roundw
                      case rel =>
                        refine ⟨x + 1, by omega, by go_num, ?_, ?_, ?_⟩
                        · rw [← hp.out, hm.out]
                          exact hide (by repeat (first | with_reducible exact hJ.out | with_reducible refine VInv.drew ?_ | with_reducible refine VInv.drewN ?_ _ | with_reducible refine VInv.alloc ?_ _ | with_reducible refine VInv.set ?_ hbl _ hxl _))
                        · exact hide ((hO.out.elsewhere (by simp [Value.ownBlock]; omega) _).drew)
                        · exact (by repeat (first | with_reducible assumption | with_reducible refine cu_drew ?_ | with_reducible refine cu_drewN ?_ | with_reducible refine cu_alloc ?_ | (with_reducible refine cu_set ?_ ?_; rotate_left; (first | with_reducible assumption | omega | (simp <;> omega) | simp)) | with_reducible refine fu_drew ?_ | with_reducible refine fu_drewN ?_ | with_reducible refine fu_alloc ?_ | with_reducible refine fu_set ?_))
                      case measure => simp [intOf]; omega
                  | false =>
                    have hp := hide (partW_miss (f := f) (c := cc) hRx)
                    rw [hRx] at d0
                    replace hy := hide hy
                    clear hRx
                    go_wp2
                    go_roundw
                    case rel =>
                      refine ⟨x + 1, by omega, by go_num, ?_, hO, hcx⟩
                      rw [← hp.out]
                      exact hJ
                    case measure => simp [intOf]; omega
                · obtain rfl : n = x := by omega
                  go_wp2
                  go_roundw
                  case rel => exact ⟨j + 1, partW f R cc n, by omega, by go_num, hstep, hJ⟩
                  case measure => simp [intOf]; omega
            · obtain rfl : j = es.length := by omega
              have hf2 := hide (show LI n (upz f k FAR) = LI n (wideRow (nes es) n k) by
                refine li_congr (fun v hv => ?_)
                have h1 := hf.out v hv
                rw [List.take_length] at h1
                unfold wideRow upz
                split
                · rfl
                · exact h1)
              have d1 := hI.out.2.2.1.atI k hlt
              have q1 := hI.out.2.2.1.free
              have q3 := hI.out.2.2.1.at_base.2
              have i1 : (0 : Int) ≤ (k : Int) ∧ (k : Int) < (n : Int) := by omega
              have hI4 := hide (hI.out.set hbl k hlt FAR)
              have hR4 := hide (hR.out.stays hI4.out.2.2.2)
              have hts : ts.length = k := by have := hR.out.1; rw [wideRows_len] at this; exact this
              have hne : (Value.slice av k cv).ownBlock ≠ some wi.heap.size := by
                intro e
                have := hR.out.2.1.block_lt _ e
                omega
              replace hts := hide hts
              replace hne := hide hne
              have hbs4 := hI4.out.2.2.2.size
              go_wp2_with (at_builtin; (refine wpList_pushL (e := 33) (enc := encS) (xs := ts) (v := .slice av (k) cv) (base := w.heap.size + 1) rfl (.tmp 61) (.tmp 63) 25 rfl _ 24 Try.underlying25 info_row rfl ?d11 lenS oneS (k) ?d21 ?d31 ?d41 ⟨wr.heap.size, 0, none⟩ 1 ⟨some ⟨wi.heap.size, 0, none⟩, n, n⟩ ?d51 ?d61 ?d71 ?d81 ?d91 ?_); (case d11 => omega); (case d21 => exact hts.out); (case d31 => rfl); (case d41 => exact hR4.out.2.1.alloc _); (case d51 => rfl); (case d61 => exact newS _ _ _ _ (by simp)); (case d71 => omega); (case d81 => unfold maxLen; omega); (case d91 => first | omega | (simp; done) | (simp; omega)); intro g1 c1 w1 own1 hb1 hgr1 hat1 hgl1; replace own1 := hide own1; replace hb1 := hide hb1; replace hgr1 := hide hgr1; replace hat1 := hide hat1)
              go_roundw
              case rel =>
                have hrow : Row encI 1 (wr.setCell ⟨wi.heap.size, k, none⟩ (.int .i64 FAR)) (wr.setCell ⟨wi.heap.size, k, none⟩ (.int .i64 FAR)).heap.size (some ⟨wi.heap.size, 0, none⟩) (LI n (wideRow (nes es) n k)) := by
                  obtain ⟨a', c', hv, hr, _⟩ := hI4.out.2.2.1.row lenI
                  simp only [Value.slice.injEq] at hv
                  obtain ⟨rfl, _⟩ := hv
                  rw [← hf2.out]
                  exact hr
                have hnb : some w.heap.size ≠ (Value.slice av k cv).ownBlock := by
                  intro e
                  have := hR.out.2.1.block_lt _ e.symm
                  omega
                refine ⟨k + 1, some ⟨g1, 0, none⟩, c1, ts ++ [⟨some ⟨wi.heap.size, 0, none⟩, n, n⟩], by omega, by go_num, rfl, ?_, hgr1.out.cell (cu_alloc hI4.out.1) hnb, hgr1.out.cell (cu_alloc hI4.out.2.1) hnb, ?_⟩
                · rw [wideRows_succ]
                  refine hide (hR4.out.push hrow hne.out hI4.out.2.2.1.at_base.2 own1.out hgr1.out ?_)
                  intro j hj
                  simp only [Value.ownBlock, Option.some.injEq] at hj
                  subst hj
                  rcases hat1.out with h | h
                  · exact .inl h
                  · right; rw [h]; simp
                · exact hide (((hb.out.trans (hI4.out.2.2.2.mono (by omega))).alloc (by simp; omega) _).trans (hb1.out.mono (by omega)))
              case measure => simp [intOf]; omega
    · obtain rfl : n = k := by omega
      go_wp2
      go_ret
      exact ⟨av, cv, rfl, hR.out.tab, hb.out⟩
end Go.Proofs.Ytmhgemolgcnpoaa
