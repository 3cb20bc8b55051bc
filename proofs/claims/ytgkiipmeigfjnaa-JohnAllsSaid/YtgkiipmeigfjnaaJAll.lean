/-
  What john.All returns. Conditions: that the slice reads.
-/
import Derived.Test.YtgkiipmeigfjnaaJLift
import Derived.Test.YtgkiipmeigfjnaaFlat
import Derived.Test.YtgkiipmeigfjnaaShiftP
import Derived.Test.YtgkiipmeigfjnaaDijkW
import Derived.Test.YtgkiipmeigfjnaaRAll
namespace Go.Proofs.Ytgkiipmeigfjnaa
open Go.RowKit
set_option linter.unusedSimpArgs false
set_option linter.unusedVariables false
theorem lift_bounds {n : Nat} {es : List Ed} (hn : n ≤ 64) (hes : Right n es) (v : Nat) : -1000000 ≤ lift n es v ∧ lift n es v ≤ 1000000 := by
  have h1 := spread_low (K := 0) (es := nes es) (d := fun _ => 0) (by omega) (fun v => by simp [FAR]) (nes_cost hes) (n - 1) v
  have h2 : spread (nes es) (fun _ => 0) (n - 1) v ≤ 0 := spread_le (nes es) (fun _ => 0) (n - 1) v
  unfold lift
  omega
theorem lift_pos {n : Nat} {es : List Ed} (hn1 : 1 ≤ n) (hes : Right n es) (hgood : LI n (lift n es) = LI n (lift1 n es)) : ∀ e ∈ es.map (flE (lift n es)), 0 ≤ e.c := by
  intro e he
  obtain ⟨x, hx, rfl⟩ := List.mem_map.1 he
  have hr := hes x hx
  have hm : (⟨x.u.toNat, x.v.toNat, x.c⟩ : NE) ∈ nes es := List.mem_map.2 ⟨x, hx, rfl⟩
  have hfe := spread1_edge (nes es) (lift n es) _ hm (by
    have := spread_le (nes es) (fun _ => 0) (n - 1) x.u.toNat
    unfold lift FAR
    simp only at this ⊢
    omega)
  have hv : x.v.toNat < n := by omega
  have e1 : spread1 (nes es) (lift n es) x.v.toNat = lift n es x.v.toNat := by
    have h := li_inj hgood x.v.toNat hv
    rw [h]
    unfold lift1 lift
    obtain ⟨m, rfl⟩ : ∃ m, n = m + 1 := ⟨n - 1, by omega⟩
    rfl
  rw [e1] at hfe
  simp only [flE] at hfe ⊢
  omega
/-- costs with the heights taken off again -/
def rowF (f : Nat → Int) (k : Nat) (d : Nat → Int) : Nat → Int := fun v => if d v < FAR then d v + (f v - f k) else d v
theorem rowF_is {n : Nat} {f : Nat → Int} {k : Nat} {es : List Ed} (hf : ∀ v, -1000000 ≤ f v ∧ f v ≤ 1000000) (hn : n ≤ 64) (hes : Right n es) : LI n (rowF f k (distF n (es.map (flE f)) k)) = LI n (distF n es k) := by
  refine li_congr fun v hv => ?_
  have h := distF_shift (a := k) hf hn hes v hv
  have h1 := hf v
  have h2 := hf k
  unfold rowF
  rcases h with ⟨h3, h4⟩ | ⟨h3, h4⟩
  · rw [h4, if_neg (by omega), h3]
  · rw [h4, if_pos (by unfold FAR; omega)]
    omega
/-- what holds while a row's heights are taken off -/
def JRow (w3 : World) (g n c : Nat) (base : Nat) (d : Nat → Int) (wr : World) : Prop := Own encI 1 3 wr base (.slice (some ⟨g, 0, none⟩) n c) (LI n d) ∧ Keep (fun k => k = g) w3 wr
theorem JRow.drew {w3 wr : World} {g n c base : Nat} {d : Nat → Int} (h : JRow w3 g n c base d wr) : JRow w3 g n c base d wr.drew := ⟨h.1.drew, h.2.drew⟩
theorem JRow.drewN {w3 wr : World} {g n c base : Nat} {d : Nat → Int} (h : JRow w3 g n c base d wr) (m : Nat) : JRow w3 g n c base d (wr.drewN m) := ⟨h.1.drewN m, h.2.drewN m⟩
theorem JRow.set {w3 wr : World} {g n c base : Nat} {d : Nat → Int} (h : JRow w3 g n c base d wr) (v : Nat) (hv : v < n) (x : Int) : JRow w3 g n c base (upz d v x) (wr.setCell ⟨g, v, none⟩ (.int .i64 x)) := ⟨h.1.setI v hv x, h.2.setCell (.inl rfl) _⟩
set_option maxRecDepth 100000 in
theorem jall_bad (N : Int) (a : Option Addr) (cap : Nat) (es : List Ed) (w : World) (B : Nat) (hB : B ≤ w.heap.size) (hE : Row encE 3 w B a es) (hl : es.length ≤ 9223372036854775807) (h0 : netErr N es ≠ 0) :
    Calls Try.prog 40 #[.agg #[.int .i64 N, .slice a es.length cap]] w fun e w' => e = .returned (.tuple #[.slice none 0 0, .int .i64 (netErr N es)]) ∧ Below w.heap.size w w' := by
  have q0 : (netErr N es != 0) = true := by simp [h0]
  have hL := hide (fun w B hB hE => jlift_bad N a cap es w B hB hE hl h0)
  replace hE := hide hE
  clear h0
  go_enter Try.func40, Try.ntmps40
  go_wp2_with fail
  refine (hL.out _ B (by simp <;> omega) (hE.out.below ((by repeat (first | with_reducible exact Below.refl _ _ | with_reducible assumption | with_reducible refine up_drewN ?_ | with_reducible refine up_drew ?_ | (with_reducible refine up_alloc ?_ ?_; rotate_left; (first | omega | (simp <;> omega) | simp)) | (with_reducible refine up_set ?_ ?_; rotate_left; (first | omega | (simp <;> omega) | simp)) | (with_reducible refine Below.trans ?_ (Below.mono (by with_reducible assumption) ?_); rotate_left; (first | omega | (simp <;> omega) | simp)))) : Below w.heap.size w _) hB)).mono ?_
  rintro e w1 ⟨ah, ch, rfl, _, hb1⟩
  go_wp2
  go_ret2
  exact ⟨rfl, (by repeat (first | with_reducible exact Below.refl _ _ | with_reducible assumption | with_reducible refine up_drewN ?_ | with_reducible refine up_drew ?_ | (with_reducible refine up_alloc ?_ ?_; rotate_left; (first | omega | (simp <;> omega) | simp)) | (with_reducible refine up_set ?_ ?_; rotate_left; (first | omega | (simp <;> omega) | simp)) | (with_reducible refine Below.trans ?_ (Below.mono (by with_reducible assumption) ?_); rotate_left; (first | omega | (simp <;> omega) | simp))))⟩
set_option maxRecDepth 100000 in
set_option maxHeartbeats 1000000 in
theorem jall_cycle (n : Nat) (a : Option Addr) (cap : Nat) (es : List Ed) (w : World) (B : Nat) (hB : B ≤ w.heap.size) (hE : Row encE 3 w B a es) (hl : es.length ≤ 9223372036854775807) (h0 : netErr (n : Int) es = 0) (hbad : ¬ LI n (lift n es) = LI n (lift1 n es)) :
    Calls Try.prog 40 #[.agg #[.int .i64 (n : Int), .slice a es.length cap]] w fun e w' => e = .returned (.tuple #[.slice none 0 0, .int .i64 6]) ∧ Below w.heap.size w w' := by
  have hL := hide (show ∀ w B, _ from fun w B hB hE => jlift_ok n a cap es w B hB hE hl h0 false (by simp [hbad]))
  replace hE := hide hE
  clear h0 hbad
  go_enter Try.func40, Try.ntmps40
  go_wp2_with fail
  refine (hL.out _ B (by simp <;> omega) (hE.out.below ((by repeat (first | with_reducible exact Below.refl _ _ | with_reducible assumption | with_reducible refine up_drewN ?_ | with_reducible refine up_drew ?_ | (with_reducible refine up_alloc ?_ ?_; rotate_left; (first | omega | (simp <;> omega) | simp)) | (with_reducible refine up_set ?_ ?_; rotate_left; (first | omega | (simp <;> omega) | simp)) | (with_reducible refine Below.trans ?_ (Below.mono (by with_reducible assumption) ?_); rotate_left; (first | omega | (simp <;> omega) | simp)))) : Below w.heap.size w _) hB)).mono ?_
  rintro e w1 ⟨ah, ch, rfl, _, hb1⟩
  go_wp2
  go_ret2
  exact ⟨rfl, (by repeat (first | with_reducible exact Below.refl _ _ | with_reducible assumption | with_reducible refine up_drewN ?_ | with_reducible refine up_drew ?_ | (with_reducible refine up_alloc ?_ ?_; rotate_left; (first | omega | (simp <;> omega) | simp)) | (with_reducible refine up_set ?_ ?_; rotate_left; (first | omega | (simp <;> omega) | simp)) | (with_reducible refine Below.trans ?_ (Below.mono (by with_reducible assumption) ?_); rotate_left; (first | omega | (simp <;> omega) | simp))))⟩
set_option maxRecDepth 100000 in
set_option maxHeartbeats 4000000 in
theorem jall_ok (n : Nat) (a : Option Addr) (cap : Nat) (es : List Ed) (w : World) (B : Nat) (hB : B ≤ w.heap.size) (hE : Row encE 3 w B a es) (hl : es.length ≤ 9223372036854775807) (h0 : netErr (n : Int) es = 0) (hgood : LI n (lift n es) = LI n (lift1 n es)) :
    Calls Try.prog 40 #[.agg #[.int .i64 (n : Int), .slice a es.length cap]] w (TabBack (distRows n es n) n n 0 w) := by
  obtain ⟨n1, n2, n3, n4⟩ := netErr_ok h0
  have hes := right_of h0
  have hL := hide (show ∀ w B, _ from fun w B hB hE => by have := jlift_ok n a cap es w B hB hE hl h0 true (by simp [hgood]); simpa only [if_true] using this)
  have hfb := lift_bounds (n := n) (by omega) hes
  have hpos := lift_pos (by omega) hes hgood
  have hrow := hide (fun k => rowF_is (k := k) hfb (by omega) hes)
  have hDb0 := hide (fun k v hv => distF_flat (a := k) hfb (show n ≤ 64 by omega) hes v hv)
  have hF := hide (fun ah ch w B hB hE hH => flat_any n a cap es (lift n es) ah ch w B hB hE hH n3 hes hfb)
  have hRun := hide (fun a2 c2 v (hv : v < n) w B hB hE => by have := run_gen n a2 c2 (es.map (flE (lift n es))) v w B hB hE (by omega) (by omega) (by rw [List.length_map]; omega) (flat_right hfb hes) hpos hv; rw [List.length_map] at this; exact this)
  have hfl := hide (show (es.map (flE (lift n es))).length = es.length by rw [List.length_map])
  have hfb := hide hfb
  generalize es.map (flE (lift n es)) = fs at hF hRun hrow hfl hDb0
  generalize lift n es = f at *
  replace hE := hide hE
  clear h0 n4 hgood hpos hes
  go_enter Try.func40, Try.ntmps40
  go_wp2_with fail
  refine (hL.out _ B (by simp <;> omega) (hE.out.below ((by repeat (first | with_reducible exact Below.refl _ _ | with_reducible assumption | with_reducible refine up_drewN ?_ | with_reducible refine up_drew ?_ | (with_reducible refine up_alloc ?_ ?_; rotate_left; (first | omega | (simp <;> omega) | simp)) | (with_reducible refine up_set ?_ ?_; rotate_left; (first | omega | (simp <;> omega) | simp)) | (with_reducible refine Below.trans ?_ (Below.mono (by with_reducible assumption) ?_); rotate_left; (first | omega | (simp <;> omega) | simp)))) : Below w.heap.size w _) hB)).mono ?_
  rintro e w1 ⟨ah, ch, rfl, hrh, hb1⟩
  obtain ⟨hc1, hf1⟩ := bcell hb1
  have hz1 : w.heap.size < w1.heap.size := by have := hb1.size; simp at this; omega
  have hB1 := hide (show Below w.heap.size w w1 from (by repeat (first | with_reducible exact Below.refl _ _ | with_reducible assumption | with_reducible refine up_drewN ?_ | with_reducible refine up_drew ?_ | (with_reducible refine up_alloc ?_ ?_; rotate_left; (first | omega | (simp <;> omega) | simp)) | (with_reducible refine up_set ?_ ?_; rotate_left; (first | omega | (simp <;> omega) | simp)) | (with_reducible refine Below.trans ?_ (Below.mono (by with_reducible assumption) ?_); rotate_left; (first | omega | (simp <;> omega) | simp)))))
  have k0 : w1.cell? ⟨w.heap.size, 0, none⟩ = some (.int .i64 (n : Int)) := by simp [hc1, hz1, go_sem]
  have k1 : w1.cell? ⟨w.heap.size, 1, none⟩ = some (.slice a es.length cap) := by simp [hc1, hz1, go_sem]
  replace hrh := hide hrh
  clear hb1 hc1 hf1 hL
  go_wp2_with fail
  refine (hF.out _ _ _ w1.heap.size (Nat.le_refl _) ((hE.out.below hB1.out hB).mono (Nat.le_trans hB hB1.out.size)) hrh.out).mono ?_
  rintro e w2 ⟨vf, rfl, ownf, hb2⟩
  obtain ⟨af, cf, rfl⟩ := ownf.shape (n := es.length) hfl.out
  have hz2 := hb2.size
  have k2 := cu_below hb2 k0 (cell_lt k0)
  have k3 := cu_below hb2 k1 (cell_lt k1)
  have hB2 := hide (hB1.out.trans (hb2.mono (by omega)))
  have hrF : Row encE 3 w2 w2.heap.size af fs := by
    obtain ⟨a', c', hv, hr, _⟩ := ownf.row lenE
    simp only [Value.slice.injEq] at hv
    obtain ⟨rfl, _⟩ := hv
    exact hr
  have hrh2 := hide (hrh.out.below hb2 (Nat.le_refl _))
  clear hF ownf hb2 hrh k0 k1
  obtain ⟨wA, hA⟩ : ∃ wA, wA = w2.alloc (.cells #[.int .i64 (n : Int), .slice af es.length cf] 24) := ⟨_, rfl⟩
  have hbA : Below w2.heap.size w2 wA := by rw [hA]; exact (Below.refl _ _).alloc (Nat.le_refl _) _
  have k4 := cu_below hbA k2 (cell_lt k2)
  have k6 : wA.cell? ⟨w2.heap.size, 0, none⟩ = some (.int .i64 (n : Int)) := by rw [hA]; simp [go_sem]
  have k7 : wA.cell? ⟨w2.heap.size, 1, none⟩ = some (.slice af es.length cf) := by rw [hA]; simp [go_sem]
  have hzA : w2.heap.size < wA.heap.size := cell_lt k6
  have hrFA := hide ((hrF.below hbA (Nat.le_refl _)).mono hbA.size)
  have hrhA := hide ((hrh2.out.below hbA hz2).mono (show w1.heap.size ≤ wA.heap.size by omega))
  have hBA := hide (hB2.out.trans (hbA.mono hB2.out.size))
  have hzw : w.heap.size < w2.heap.size := by omega
  clear hbA hrF hrh2 hB2 hB1
  replace hA := hide hA
  go_wp2
  simp only [← hA.out]
  clear k2 k3
  go_loopw [7, 8, 9, 10, 24] (fun s7 _ _ _ i wr => ∃ (k : Nat) (av : Option Addr) (cv : Nat) (ts : List S3), k ≤ n ∧ i = .int .i64 k ∧ s7 = .slice av k cv ∧ Hid (ROut 34 wr wA.heap.size (.slice av k cv) n ts (distRows n es k)) ∧ Hid (Below wA.heap.size wA wr)) (fun _ _ _ _ i _ => n - (intOf i).toNat)
  case atStart => exact ⟨0, none, 0, [], Nat.zero_le _, rfl, rfl, ROut.nil _ _ _ _, Below.refl _ _⟩
  case round =>
    obtain ⟨k, av, cv, ts, hk, rfl, rfl, hR, hb⟩ := hrel
    have hts := hide (show ts.length = k by have := hR.out.1; rw [distRows_len] at this; exact this)
    by_cases hlt : k < n
    · have k5 := cu_below hb.out k4 (cell_lt k4)
      have k8 := cu_below hb.out k6 (cell_lt k6)
      have k9 := cu_below hb.out k7 (cell_lt k7)
      have hzr : wA.heap.size ≤ wr.heap.size := hb.out.size
      have hEr := hide (hrFA.out.below hb.out (Nat.le_refl _))
      have hHr := hide (hrhA.out.below hb.out (Nat.le_refl _))
      clear k4 k6 k7
      go_wp2_with fail
      refine (hRun.out _ _ _ hlt _ wA.heap.size (by omega) hEr.out).mono ?_
      rintro e w3 ⟨a3, c3, rfl, own3, hb3⟩
      obtain ⟨g3, rfl, hg3, hg4⟩ := own3.blockI (by omega)
      have hR3 := hide (hR.out.stays hb3)
      have hne := hide (show (Value.slice av k cv).ownBlock ≠ some g3 from fun e => by have := hR.out.2.1.block_lt g3 e; omega)
      have hHr3 := hide (hHr.out.below hb3 hzr)
      have hz3 : wr.heap.size ≤ w3.heap.size := hb3.size
      have hbA3 := hide (hb.out.trans (hb3.mono hzr))
      have hJ0 := hide (show JRow w3 g3 n c3 wr.heap.size (first 0 (rowF f k (distF n fs k)) (distF n fs k)) w3 from ⟨by rw [first_zero]; exact own3, Keep.refl _ _⟩)
      have hrowk := hide (hrow.out k)
      obtain ⟨D, hD⟩ : ∃ D, D = distF n fs k := ⟨_, rfl⟩
      rw [← hD] at hJ0 hrowk
      have hDb := hide (hDb0.out k)
      rw [← hD] at hDb
      replace hD := hide hD
      replace hb3 := hide hb3
      obtain ⟨wo, rfl⟩ : ∃ wo : World, wo = wr := ⟨_, rfl⟩
      clear own3 hEr hHr k5 k8 k9
      go_wp2
      go_loopw [10, 32] (fun _ i wr => ∃ j : Nat, j ≤ n ∧ i = .int .i64 j ∧ Hid (JRow w3 g3 n c3 wo.heap.size (first j (rowF f k D) D) wr)) (fun _ i _ => n - (intOf i).toNat)
      case atStart => exact ⟨0, Nat.zero_le _, rfl, hJ0⟩
      case round =>
        clear hJ0
        obtain ⟨j, hj, rfl, hJ⟩ := hrel
        have hfr := hJ.out.1.free
        have hgl := hJ.out.1.at_base
        by_cases hjl : j < n
        · have c0 := hJ.out.1.atI j hjl
          have e0 : first j (rowF f k D) D j = D j := by simp [first]
          rw [e0] at c0
          have hHw := hJ.out.2.row hHr3.out (by omega) (fun q hq e => by omega)
          obtain ⟨bh, oh, rfl, hbh, h1⟩ := hHw.atI j hjl
          obtain ⟨b', o', e1, _, h2⟩ := hHw.atI k hlt
          simp only [Option.some.injEq, Addr.mk.injEq] at e1
          obtain ⟨rfl, rfl, _⟩ := e1
          have hbl := cell_lt h1
          have b1 := hfb.out j
          have b2 := hfb.out k
          obtain ⟨b3, b4⟩ := hDb.out j hjl
          have ij : (0 : Int) ≤ (j : Int) ∧ (j : Int) < (n : Int) := by omega
          have ik : (0 : Int) ≤ (k : Int) ∧ (k : Int) < (n : Int) := by omega
          have hset := hide (show ∀ x w', rowF f k D j = x → JRow w3 g3 n c3 wo.heap.size (upz (first j (rowF f k D) D) j x) w' → JRow w3 g3 n c3 wo.heap.size (first (j + 1) (rowF f k D) D) w' from by
            rintro x w' rfl h
            rwa [first_step] at h)
          obtain ⟨dj, hdj⟩ : ∃ x, x = D j := ⟨_, rfl⟩
          obtain ⟨fj, hfj⟩ : ∃ x, x = f j := ⟨_, rfl⟩
          obtain ⟨fk, hfk⟩ : ∃ x, x = f k := ⟨_, rfl⟩
          have hval := hide (show rowF f k D j = if dj < 1099511627776 then dj + (fj - fk) else dj by unfold rowF FAR; rw [hdj, hfj, hfk])
          rw [← hdj] at c0 b3 b4
          rw [← hfj] at h1 b1
          rw [← hfk] at h2 b2
          unfold FAR at b4
          replace hdj := hide hdj
          replace hfj := hide hfj
          replace hfk := hide hfk
          clear hHw e0
          by_cases hq : dj < 1099511627776
          · have hv2 := hide (show rowF f k D j = dj + (fj - fk) by rw [hval.out, if_pos hq])
            have b5 := b4 hq
            clear b4
            go_wp2
            go_region
            go_wp2
            go_roundw
            case rel =>
              refine ⟨j + 1, by omega, by go_num, hide (hset.out _ _ hv2.out ?_)⟩
              repeat (first | with_reducible exact hJ.out | with_reducible refine JRow.drew ?_ | with_reducible refine JRow.drewN ?_ _ | with_reducible refine JRow.set ?_ _ hjl _)
            case measure => simp [intOf]; omega
          · have hv2 := hide (show rowF f k D j = dj by rw [hval.out, if_neg hq])
            clear b4
            go_wp2
            go_roundw
            case rel =>
              refine ⟨j + 1, by omega, by go_num, hide (hset.out _ _ hv2.out ?_)⟩
              have e2 : upz (first j (rowF f k D) D) j dj = first j (rowF f k D) D := by
                funext v
                by_cases hv : v = j
                · subst hv; rw [upz_same, hdj.out]; simp [first]
                · rw [upz_other _ _ hv]
              rw [e2]
              exact hJ.out
            case measure => simp [intOf]; omega
        · obtain rfl : n = j := by omega
          have hbr := hide (show Below wo.heap.size wo wr from hb3.out.trans (hJ.out.2.toBelow (fun q hq => by omega) hz3))
          have hR4 := hide (hR.out.stays hbr.out)
          have hrow4 := hide (show Row encI 1 wr wr.heap.size (some ⟨g3, 0, none⟩) (LI n (distF n es k)) from by
            obtain ⟨a', c', hv, hr, _⟩ := hJ.out.1.row lenI
            simp only [Value.slice.injEq] at hv
            obtain ⟨rfl, _⟩ := hv
            rw [first_all, hrowk.out] at hr
            exact hr)
          have hz4 : wo.heap.size ≤ wr.heap.size := hbr.out.size
          have hgl4 := hgl.2
          clear hgl
          go_wp2_with (at_builtin; (refine wpList_pushL (e := 34) (enc := encS) (xs := ts) (v := .slice av (k) cv) (base := wA.heap.size) rfl (.tmp 56) (.tmp 58) 30 rfl _ 24 Try.underlying30 info_row rfl ?d11 lenS oneS (k) ?d21 ?d31 ?d41 ⟨wr.heap.size, 0, none⟩ 1 ⟨some ⟨g3, 0, none⟩, n, c3⟩ ?d51 ?d61 ?d71 ?d81 ?d91 ?_); (case d11 => omega); (case d21 => exact hts.out); (case d31 => rfl); (case d41 => exact hR4.out.2.1.alloc _); (case d51 => rfl); (case d61 => exact newS _ _ _ _ rfl); (case d71 => omega); (case d81 => unfold maxLen; omega); (case d91 => first | omega | (simp; done) | (simp; omega)); intro g1 c1 w1 own1 hb1 hgr1 hat1 hgl1; have hB1 := unalloc hb1 (by omega); replace own1 := hide own1; replace hB1 := hide hB1; replace hb1 := hide hb1; replace hgr1 := hide hgr1; replace hat1 := hide hat1)
          go_roundw
          case rel =>
            refine ⟨k + 1, some ⟨g1, 0, none⟩, c1, ts ++ [⟨some ⟨g3, 0, none⟩, n, c3⟩], by omega, by go_num, rfl, ?_, ?_⟩
            · rw [distRows_succ]
              refine hide (hR4.out.push hrow4.out hne.out hgl4 own1.out hgr1.out ?_)
              intro j hj
              simp only [Value.ownBlock, Option.some.injEq] at hj
              subst hj
              rcases hat1.out with h | h
              · exact .inl h
              · right; rw [h]; simp
            · exact hide ((hb.out.trans (hbr.out.mono hzr)).trans hB1.out)
          case measure => simp [intOf]; omega
    · obtain rfl : n = k := by omega
      go_wp2
      go_ret2
      exact ⟨av, cv, rfl, hR.out.tab, hBA.out.trans (hb.out.mono (by have := hBA.out.size; omega))⟩
end Go.Proofs.Ytgkiipmeigfjnaa
