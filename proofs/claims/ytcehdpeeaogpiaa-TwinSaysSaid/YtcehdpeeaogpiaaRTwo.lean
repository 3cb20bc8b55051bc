/-
  What the reference's Two returns: what two walks that share no edge cost least. Conditions: a right net of up to six places and twelve edges.
-/
import Derived.Test.YtcehdpeeaogpiaaTwA
import Derived.Test.YtcehdpeeaogpiaaRSim
import Derived.Test.YtcehdpeeaogpiaaYenT
import Derived.Test.YtcehdpeeaogpiaaListI
import Derived.Deep.RegionHeld3
namespace Go.Proofs.Ytcehdpeeaogpiaa
open Go.RowKit
set_option linter.unusedSimpArgs false
set_option linter.unusedVariables false
def inL (ys xs : List Int) : List Bool := xs.map (fun x => decide (x ∈ ys))
theorem two1_any (x : Int) (bv : Nat) (ay : Option Addr) (my cy : Nat) (ys : List Int) (w : World) (B : Nat) (hm : ys.length = my) (hY : Row encI 1 w B ay ys) (hm2 : my ≤ 1000000) (hc : w.cell? ⟨bv, 0, none⟩ = some (.slice ay my cy)) : Calls Try.prog 162 #[.int .i64 x, .pointer (some ⟨bv, 0, none⟩)] w fun e w' => e = .returned (.bool (decide (x ∈ ys))) ∧ w = w' := by
  have hC := hide (contI_any x ay cy my ys w B hm hY hm2)
  have z1 := cell_lt hc
  clear hY hm
  obtain ⟨t, ht⟩ : ∃ t, t = decide (x ∈ ys) := ⟨_, rfl⟩
  rw [← ht] at hC ⊢
  replace ht := hide ht
  go_enter Try.func162, Try.ntmps162
  go_wp2_with fail
  refine hC.out.mono ?_
  rintro e w1 ⟨rfl, rfl⟩
  go_wp2
  go_ret
  exact ⟨rfl, rfl⟩
set_option maxRecDepth 100000 in
set_option maxHeartbeats 1000000 in
theorem idxT_any (bv : Nat) (an : Option Addr) (cn m : Nat) (xs : List Int) (ay : Option Addr) (my cy : Nat) (ys : List Int) (w : World) (B : Nat) (hB : B ≤ w.heap.size) (hm : xs.length = m) (hE : Row encI 1 w B an xs) (hmy : ys.length = my) (hY : Row encI 1 w B ay ys) (hm2 : m ≤ 1000000) (hmy2 : my ≤ 1000000) (hc : w.cell? ⟨bv, 0, none⟩ = some (.slice ay my cy)) :
    Calls Try.prog 176 #[.slice an m cn, .func (.func 162) #[] #[.pointer (some ⟨bv, 0, none⟩)]] w fun e w' => e = .returned (.int .i64 (firstB (inL ys xs) 0)) ∧ Below w.heap.size w w' := by
  obtain ⟨bs, hbse⟩ : ∃ bs, bs = inL ys xs := ⟨_, rfl⟩
  have hbl := hide (show bs.length = m by rw [hbse]; simp [inL, hm])
  have hbb := hide (show ∀ k (h : k < xs.length) (h2 : k < bs.length), bs[k] = decide (xs[k] ∈ ys) from fun k h h2 => by subst hbse; simp [inL])
  rw [← hbse]
  clear hbse
  have hTT := hide (fun (x : Int) (w' : World) (hb : Below w.heap.size w w') (t : Bool) (ht : t = decide (x ∈ ys)) => (show Calls Try.prog 162 #[.int .i64 x, .pointer (some ⟨bv, 0, none⟩)] w' (fun e w'' => e = .returned (.bool t) ∧ w' = w'') from by
    rw [ht]
    exact two1_any x bv ay my cy ys w' B hmy (hY.below hb hB) hmy2 (cu_below hb hc (cell_lt hc))))
  replace hE := hide hE
  replace hm := hide hm
  have z1 := cell_lt hc
  clear hY hmy hc
  go_enter Try.func176, Try.ntmps176
  go_wp2
  go_loopw [5, 8] (fun _ i wr => ∃ k : Nat, k ≤ m ∧ i = .int .i64 k ∧ Hid (firstB bs 0 = firstB (bs.drop k) k) ∧ Hid (Below w.heap.size w wr)) (fun _ i _ => m - (intOf i).toNat)
  case atStart => exact ⟨0, Nat.zero_le _, rfl, hide rfl, hide (Below.refl _ _)⟩
  case round =>
    obtain ⟨k, hk2, rfl, hrest, hb'⟩ := hrel
    have hz := hb'.out.size
    by_cases hlt : k < m
    · have hk' : k < xs.length := by have := hm.out; omega
      have hk'' : k < bs.length := by have := hbl.out; omega
      obtain ⟨b4, o4, rfl, hbB, f1⟩ := hE.out.int k hk'
      have f1 := cu_below hb'.out f1 (by simp; omega)
      have hbr : b4 < wr.heap.size := by omega
      have hv := hide (hbb.out k hk' hk'')
      have hit := hide (firstB_hit hk'')
      have miss := hide (firstB_miss hk'')
      have ik : (0 : Int) ≤ (k : Int) ∧ (k : Int) < (m : Int) := by omega
      generalize xs[k] = x at f1 hv
      obtain ⟨t, ht⟩ : ∃ t, t = decide (x ∈ ys) := ⟨_, rfl⟩
      have hT := hide (fun (w' : World) (hb : Below wr.heap.size wr w') => hTT.out x w' (hb'.out.trans (hb.mono hz)) t ht)
      rw [← ht] at hv
      replace ht := hide ht
      cases t with
      | true =>
        have hfin := hide (show (k : Int) = firstB bs 0 by rw [hrest.out, hit.out hv.out])
        go_wp2_with fail
        refine (hT.out _ (by first | exact Below.refl _ _ | exact below_drew _)).mono ?_
        rintro e w1 ⟨rfl, rfl⟩
        go_wp2
        go_ret
        exact ⟨ret_int hfin.out, hb'.out⟩
      | false =>
        have hnx := hide (show firstB bs 0 = firstB (bs.drop (k + 1)) (k + 1) by rw [hrest.out, miss.out hv.out])
        go_wp2_with fail
        refine (hT.out _ (by first | exact Below.refl _ _ | exact below_drew _)).mono ?_
        rintro e w1 ⟨rfl, rfl⟩
        go_wp2
        go_roundw
        case rel => exact ⟨k + 1, by omega, by go_num, hnx, hb'⟩
        case measure => simp [intOf]; omega
    · obtain rfl : k = m := by omega
      have hfin := hide (show -1 = firstB bs 0 by rw [hrest.out, firstB_end (by rw [hbl.out]; exact Nat.le_refl _)])
      go_wp2
      go_ret
      exact ⟨ret_int hfin.out, hb'.out⟩
theorem inL_any (ys xs : List Int) : (inL ys xs).any id = xs.any (fun x => decide (x ∈ ys)) := by
  unfold inL
  rw [List.any_map]
  rfl
theorem hasT_any (bv : Nat) (an : Option Addr) (cn m : Nat) (xs : List Int) (ay : Option Addr) (my cy : Nat) (ys : List Int) (w : World) (B : Nat) (hB : B ≤ w.heap.size) (hm : xs.length = m) (hE : Row encI 1 w B an xs) (hmy : ys.length = my) (hY : Row encI 1 w B ay ys) (hm2 : m ≤ 1000000) (hmy2 : my ≤ 1000000) (hc : w.cell? ⟨bv, 0, none⟩ = some (.slice ay my cy)) (t : Bool) (ht : t = xs.any (fun x => decide (x ∈ ys))) :
    Calls Try.prog 161 #[.slice an m cn, .func (.func 162) #[] #[.pointer (some ⟨bv, 0, none⟩)]] w fun e w' => e = .returned (.bool t) ∧ Below w.heap.size w w' := by
  have hI := hide (idxT_any bv an cn m xs ay my cy ys w B hB hm hE hmy hY hm2 hmy2 hc)
  have hA := hide (show decide (0 ≤ firstB (inL ys xs) 0) = t by rw [firstB_any, inL_any, ht])
  clear hE hY hm hmy ht
  generalize firstB (inL ys xs) 0 = z at hI hA
  go_enter Try.func161, Try.ntmps161
  go_wp2_with fail
  refine hI.out.mono ?_
  rintro e w1 ⟨rfl, hb1⟩
  go_wp2
  go_ret
  exact ⟨ret_bool hA.out, hb1⟩
theorem disjL_ni (a b : List Nat) : (NI a).any (fun x => decide (x ∈ NI b)) = !(disjL a b) := by
  unfold disjL NI
  rw [List.any_map, Bool.not_not]
  congr 1
  funext i
  simp
  constructor
  · rintro ⟨x, hx, h⟩
    have : x = i := by omega
    rwa [← this]
  · intro h
    exact ⟨i, h, rfl⟩
theorem twoI_take {es : List Ed} {a : List Nat} {o : Int} {bs : List (List Nat)} {k : Nat} (h : k < bs.length) : twoI es a o (bs.take (k + 1)) = if disjL a bs[k] = true then min (twoI es a o (bs.take k)) (sumE es a + sumE es bs[k]) else twoI es a o (bs.take k) := by
  unfold twoI
  rw [List.take_succ_eq_append_getElem h, List.foldl_append]
  rfl
theorem twoO_take {es : List Ed} {all : List (List Nat)} {o : Int} {la : List (List Nat)} {k : Nat} (h : k < la.length) : twoO es all o (la.take (k + 1)) = twoI es la[k] (twoO es all o (la.take k)) all := by
  unfold twoO
  rw [List.take_succ_eq_append_getElem h, List.foldl_append]
  rfl
/-- a list of edges in memory, and what it sums to -/
def TSel (es : List Ed) (w : World) (al : Option Addr) (m cl : Nat) (r : Int) : Prop := ∃ l : List Nat, Row encI 1 w w.heap.size al (NI l) ∧ l.length = m ∧ m ≤ 1000 ∧ (∀ i ∈ l, i < es.length) ∧ r = sumE es l
set_option maxRecDepth 100000 in
set_option maxHeartbeats 4000000 in
theorem rtwo_any (n : Nat) (a : Option Addr) (cap : Nat) (es : List Ed) (s t : Nat) (w : World) (B : Nat) (hB : B ≤ w.heap.size) (hE : Row encE 3 w B a es) (hes : Right n es) (hE12 : es.length ≤ 12) (hn : n ≤ 6) (hs : s < n) (r : Int) (hr : r = twoF es (simF es t 6 s [])) :
    Calls Try.prog 77 #[.agg #[.int .i64 (n : Int), .slice a es.length cap], .int .i64 (s : Int), .int .i64 (t : Int)] w fun e w' => e = .returned (.int .i64 r) ∧ Below w.heap.size w w' := by
  obtain ⟨rows, hrw⟩ : ∃ rows, rows = simF es t 6 s [] := ⟨_, rfl⟩
  rw [← hrw] at hr
  obtain ⟨L, hL⟩ : ∃ L, L = rows.length := ⟨_, rfl⟩
  have hL2 : L ≤ 2985984 := by
    rw [hL, hrw]
    exact simF_len hE12 6 s []
  have hrl := hide (fun (l : List Nat) (h : l ∈ rows) => (show l.length ≤ 6 ∧ ∀ i ∈ l, i < es.length from by
    rw [hrw] at h
    refine ⟨simF_row 6 s [] l h, ?_⟩
    have h2 := ((simF_mem (t := t) hes 6 s [] hs List.nodup_nil (fun v hv => by cases hv) (by simp) (by simpa using hn) l).1 h).1
    have key : ∀ (l : List Nat) (u : Nat), EP es t u l → ∀ i ∈ l, i < es.length := by
      intro l
      induction l with
      | nil => intro u _ i hi; cases hi
      | cons j l ih =>
        intro u h i hi
        rcases List.mem_cons.1 hi with rfl | hi
        · exact h.2.1
        · exact ih _ h.2.2.2 i hi
    exact key l s h2))
  have hSim := hide (fun (w' : World) (hb : Below w.heap.size w w') => (show Calls Try.prog 154 #[.agg #[.int .i64 (n : Int), .slice a es.length cap], .int .i64 (s : Int), .int .i64 (t : Int), .slice none 0 0] w' (SBack rows w') from by
    rw [hrw]
    exact rsimple_any n a cap es t hes hE12 hn 6 s [] none 0 0 w' B (by have := hb.size; omega) (hE.below hb hB) hs rfl List.nodup_nil (fun v hv => by cases hv) (by simp) (by omega) (Nat.le_refl _) (Row.nil _ _ _ _ _) (fun _ => rfl)))
  have hSum := hide (fun (w' w'' : World) (al : Option Addr) (m cl : Nat) (r : Int) (hb : Below w.heap.size w w') (hb2 : Below w'.heap.size w' w'') (hs : TSel es w' al m cl r) => (show Calls Try.prog 155 #[.agg #[.int .i64 (n : Int), .slice a es.length cap], .slice al m cl] w'' (fun e w3 => e = .returned (.int .i64 r) ∧ Below w''.heap.size w'' w3) from by
    obtain ⟨l, h1, h2, h3, h4, h5⟩ := hs
    have hb3 := hb.trans (hb2.mono hb.size)
    exact rsum_any n a cap es al m cl l w'' B (by have := hb3.size; omega) (hE.below hb3 hB) ((h1.below hb2 (Nat.le_refl _)).mono hb2.size) h2 h3 hes h4 (by omega) r h5))
  have hbd := hide (fun (l : List Nat) (h : l.length ≤ 6 ∧ ∀ i ∈ l, i < es.length) => (show -60000 ≤ sumE es l ∧ sumE es l ≤ 60000 from by have := sumE_bd hes l h.2; omega))
  clear hE hes
  replace hrw := hide hrw
  replace hr := hide hr
  go_enter Try.func77, Try.ntmps77
  go_wp2_with fail
  refine (hSim.out _ (by repeat (first | with_reducible exact Below.refl _ _ | with_reducible assumption | with_reducible refine up_drewN ?_ | with_reducible refine up_drew ?_ | (with_reducible refine up_alloc ?_ ?_; rotate_left; (first | omega | (simp <;> omega) | simp)) | (with_reducible refine up_set ?_ ?_; rotate_left; (first | omega | (simp <;> omega) | simp)) | (with_reducible refine Below.trans ?_ (Below.mono (by with_reducible assumption) ?_); rotate_left; (first | omega | (simp <;> omega) | simp))))).mono ?_
  rintro e W2 ⟨ax, cx, rfl, hrows, hb2⟩
  have hbW2 := hide (show Below w.heap.size w W2 from (by repeat (first | with_reducible exact Below.refl _ _ | with_reducible assumption | with_reducible refine up_drewN ?_ | with_reducible refine up_drew ?_ | (with_reducible refine up_alloc ?_ ?_; rotate_left; (first | omega | (simp <;> omega) | simp)) | (with_reducible refine up_set ?_ ?_; rotate_left; (first | omega | (simp <;> omega) | simp)) | (with_reducible refine Below.trans ?_ (Below.mono (by with_reducible assumption) ?_); rotate_left; (first | omega | (simp <;> omega) | simp)))))
  have hz2 : w.heap.size + 1 ≤ W2.heap.size := by have := hb2.size; simpa using this
  have x0 : W2.cell? ⟨w.heap.size, 0, none⟩ = some (.int .i64 n) := cu_below hb2 (by simp [go_sem]) (by simp)
  have x1 : W2.cell? ⟨w.heap.size, 1, none⟩ = some (.slice a es.length cap) := cu_below hb2 (by simp [go_sem]) (by simp)
  rw [← hL]
  replace hrows := hide hrows
  replace hL := hide hL
  clear hb2 hSim
  go_wp2_with fail
  go_loopw [7, 10, 19] (fun s7 _ s19 wr => ∃ (k : Nat), k ≤ L ∧ s19 = .int .i64 k ∧ s7 = .int .i64 (twoO es rows FAR (rows.take k)) ∧ Hid (Below W2.heap.size W2 wr)) (fun _ _ s19 _ => L - (intOf s19).toNat)
  case atStart => exact ⟨0, by omega, rfl, rfl, hide (Below.refl _ _)⟩
  case round =>
    obtain ⟨k, hk, rfl, rfl, hb⟩ := hrel
    by_cases hlt : k < L
    · have hkr : k < rows.length := by rw [← hL.out]; exact hlt
      obtain ⟨l, hl⟩ : ∃ l, l = rows[k] := ⟨_, rfl⟩
      have hrow := (hrows.out.below hb.out (Nat.le_refl _)) k hkr
      have hl6 := hrl.out l (by rw [hl]; exact List.getElem_mem hkr)
      have hot := hide (twoO_take (es := es) (all := rows) (o := FAR) hkr)
      rw [← hl] at hrow hot
      obtain ⟨bx, ox, v0, rfl, hbx1, hbx2, cx0, al, cl, rfl, _, _, hRl⟩ := hrow
      obtain ⟨O, hO⟩ : ∃ O, O = twoO es rows FAR (rows.take k) := ⟨_, rfl⟩
      rw [← hO] at hot ⊢
      obtain ⟨ll, hll⟩ : ∃ ll, ll = l.length := ⟨_, rfl⟩
      rw [← hll] at cx0
      have hbx3 : bx < wr.heap.size := cell_lt cx0
      have hik : (0 : Int) ≤ (k : Int) ∧ (k : Int) < (L : Int) := by omega
      have hRl2 := hide (fun (w' : World) (hb' : Below W2.heap.size W2 w') => ((show Row encI 1 wr W2.heap.size al (NI l) from hRl)))
      have hrA := hide hRl
      replace hO := hide hO
      replace hl := hide hl
      replace hll := hide hll
      clear hRl hRl2
      obtain ⟨wo, rfl⟩ : ∃ wo : World, wo = wr := ⟨_, rfl⟩
      have hzo := hb.out.size
      go_wp2_with fail
      clear cx0
      go_loopw [7, 25] (fun s7 s25 wr => ∃ (j : Nat), j ≤ L ∧ s25 = .int .i64 j ∧ s7 = .int .i64 (twoI es l O (rows.take j)) ∧ Hid (Below wo.heap.size wo wr)) (fun _ s25 _ => L - (intOf s25).toNat)
      case atStart => exact ⟨0, by omega, rfl, rfl, hide (Below.refl _ _)⟩
      case round =>
        obtain ⟨j, hj, rfl, rfl, hbr⟩ := hrel
        have hzr := hbr.out.size
        have hbW := hide (hb.out.trans (hbr.out.mono hzo))
        by_cases hjl : j < L
        · have hjr : j < rows.length := by rw [← hL.out]; exact hjl
          obtain ⟨m, hm⟩ : ∃ m, m = rows[j] := ⟨_, rfl⟩
          have hrow := (hrows.out.below hbW.out (Nat.le_refl _)) j hjr
          have hm6 := hrl.out m (by rw [hm]; exact List.getElem_mem hjr)
          have hit := twoI_take (es := es) (a := l) (o := O) hjr
          rw [← hm] at hrow hit
          obtain ⟨by_, oy, v0, e1, hby1, hby2, cy0, am, cm, rfl, _, _, hRm⟩ := hrow
          simp only [Option.some.injEq, Addr.mk.injEq] at e1
          obtain ⟨rfl, rfl, _⟩ := e1
          obtain ⟨ml, hml⟩ : ∃ ml, ml = m.length := ⟨_, rfl⟩
          rw [← hml] at cy0
          have hby3 : bx < wr.heap.size := cell_lt cy0
          have hij : (0 : Int) ≤ (j : Int) ∧ (j : Int) < (L : Int) := by omega
          obtain ⟨I, hI⟩ : ∃ I, I = twoI es l O (rows.take j) := ⟨_, rfl⟩
          rw [← hI] at hit ⊢
          have hll6 : ll ≤ 6 := by rw [hll.out]; exact hl6.1
          have hml6 : ml ≤ 6 := by rw [hml]; exact hm6.1
          have sbl := hbd.out l hl6
          have sbm := hbd.out m hm6
          obtain ⟨sa, hsa⟩ : ∃ sa, sa = sumE es l := ⟨_, rfl⟩
          obtain ⟨sb, hsb⟩ : ∃ sb, sb = sumE es m := ⟨_, rfl⟩
          rw [← hsa] at sbl hit
          rw [← hsb] at sbm hit
          have hrA2 : Row encI 1 wr wr.heap.size al (NI l) := (hrA.out.below hbr.out hzo).mono (by omega)
          have hrB2 : Row encI 1 wr wr.heap.size am (NI m) := hRm.mono (by omega)
          have pA : TSel es wr al ll cl sa := ⟨l, hrA2, hll.out.symm, by omega, hl6.2, hsa⟩
          have pB : TSel es wr am ml cm sb := ⟨m, hrB2, hml.symm, by omega, hm6.2, hsb⟩
          obtain ⟨dj, hdj⟩ : ∃ dj, dj = disjL l m := ⟨_, rfl⟩
          have hHas := hide (fun (w' : World) (hb : Below wr.heap.size wr w') (bv : Nat) (hc : w'.cell? ⟨bv, 0, none⟩ = some (.slice am ml cm)) => hasT_any bv al cl ll (NI l) am ml cm (NI m) w' wr.heap.size hb.size (by rw [ni_len]; exact hll.out.symm) (hrA2.below hb (Nat.le_refl _)) (by rw [ni_len]; exact hml.symm) (hrB2.below hb (Nat.le_refl _)) (by omega) (by omega) hc (!dj) (by rw [hdj, disjL_ni]))
          have hSumK := hide (fun (w' : World) (al : Option Addr) (m cl : Nat) (r : Int) (hb : Below wr.heap.size wr w') (hs : TSel es wr al m cl r) => hSum.out wr w' al m cl r (hbW2.out.trans (hbW.out.mono hbW2.out.size)) hb hs)
          rw [← hdj] at hit
          have y0 := cu_below hbW.out x0 (by simp; omega)
          have y1 := cu_below hbW.out x1 (by simp; omega)
          have hwz : w.heap.size < wr.heap.size := by omega
          replace pA := hide pA
          replace pB := hide pB
          replace hsa := hide hsa
          replace hsb := hide hsb
          replace hI := hide hI
          replace hm := hide hm
          replace hml := hide hml
          replace hdj := hide hdj
          clear hRm hrA2 hrB2
          go_wp2_with fail
          refine (hHas.out _ (up_alloc (Below.refl _ _) (Nat.le_refl _)) _ (by simp [go_sem])).mono ?_
          rintro e w5 ⟨rfl, hb5⟩
          have hb5' := hide ((up_alloc (Below.refl wr.heap.size wr) (Nat.le_refl _)).trans (hb5.mono (by simp)) : Below wr.heap.size wr w5)
          have hz5 := hb5'.out.size
          have y0 := cu_below hb5'.out y0 (by simpa using hwz)
          have y1 := cu_below hb5'.out y1 (by simpa using hwz)
          have q0 : w5.cell? ⟨wr.heap.size, 0, none⟩ = some (.slice am ml cm) := cu_below hb5 (by simp [go_sem]) (by simp)
          have hqz : wr.heap.size < w5.heap.size := cell_lt q0
          clear hb5 hHas cy0
          cases dj with
          | false =>
            rw [if_neg (by simp)] at hit
            have hit2 := hide hit
            clear hit
            go_wp2
            go_roundw
            case rel => exact ⟨j + 1, by omega, by go_num, by rw [hit2.out], hide (hbr.out.trans (hb5'.out.mono hzr))⟩
            case measure => simp [intOf]; omega
          | true =>
            rw [if_pos rfl] at hit
            replace hit := hide hit
            have hwS : IntKind.i64.wrap (sa + sb) = sa + sb := by rw [IntKind.wrap_i64]; omega
            have key := hide (show ∀ w', Below w5.heap.size w5 w' → (Below w5.heap.size w5 w' ∧ w'.cell? ⟨w.heap.size, 0, none⟩ = some (.int .i64 (n : Int)) ∧ w'.cell? ⟨w.heap.size, 1, none⟩ = some (.slice a es.length cap) ∧ w'.cell? ⟨wr.heap.size, 0, none⟩ = some (.slice am ml cm)) from
              fun w' hb => ⟨hb, cu_below hb y0 (by simp; omega), cu_below hb y1 (by simp; omega), cu_below hb q0 hqz⟩)
            have hSumJ := hide (fun (w' : World) (al : Option Addr) (m cl : Nat) (r : Int) (hb : Below w5.heap.size w5 w') (hs : Hid (TSel es wr al m cl r)) => hSumK.out w' al m cl r (hb5'.out.trans (hb.mono hz5)) hs.out)
            clear hSumK
            have hmin : (I ≤ sa + sb) ∨ (sa + sb < I) := by omega
            go_upto_region 10 with fail
            rcases hmin with hmin | hmin
            all_goals
              go_region_held3 (fun w' => Below w5.heap.size w5 w' ∧ w'.cell? ⟨w.heap.size, 0, none⟩ = some (.int .i64 (n : Int)) ∧ w'.cell? ⟨w.heap.size, 1, none⟩ = some (.slice a es.length cap) ∧ w'.cell? ⟨wr.heap.size, 0, none⟩ = some (.slice am ml cm))
                (first | exact key.out _ (up_drew (Below.refl _ _)) | exact key.out _ (by assumption))
                (first | (go_at_call 155; have hb4 := (‹Below w5.heap.size w5 _ ∧ _› : _ ∧ _).1; refine (hSumJ.out _ _ _ _ _ (by assumption) (by assumption)).mono ?_; rintro e w6 ⟨rfl, hb7⟩; have hb6 := hb4.trans (hb7.mono hb4.size)))
              have hb9 := hide (hbr.out.trans ((hb5'.out.trans (hb6.mono hz5)).mono hzr))
              go_wp2
              go_roundw
              case rel => exact ⟨j + 1, by omega, by go_num, by rw [hit.out]; congr 1; first | omega | (split <;> omega), hb9⟩
              case measure => simp [intOf]; omega
        · obtain rfl : j = L := by omega
          have hfin := hide (show twoI es l O (rows.take j) = twoO es rows FAR (rows.take (k + 1)) by rw [hot.out, List.take_of_length_le (by rw [hL.out]; exact Nat.le_refl _)])
          rw [hfin.out]
          go_wp2
          go_roundw
          case rel => exact ⟨k + 1, by omega, by go_num, rfl, hbW⟩
          case measure => simp [intOf]; omega
    · obtain rfl : k = L := by omega
      have hfin := hide (show twoO es rows FAR (rows.take k) = r by rw [List.take_of_length_le (by rw [hL.out]; exact Nat.le_refl _), hr.out]; rfl)
      rw [hfin.out]
      have hbf := hide (hbW2.out.trans (hb.out.mono hbW2.out.size))
      go_wp2
      go_ret
      exact ⟨rfl, hbf.out⟩
end Go.Proofs.Ytcehdpeeaogpiaa
