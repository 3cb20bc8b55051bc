/-
  The reference's Focal: the place taken is deleted from those that wait (slices.DeleteFunc with Focal$2). Conditions: that the slice is the call's own.
-/
import Derived.Test.YtcehdpeeaogpiaaListI
import Derived.Test.YtcehdpeeaogpiaaBase
import Derived.Test.YtcehdpeeaogpiaaPlainB
import Derived.Test.YtcehdpeeaogpiaaHeapPop
import Derived.Lib.SliceRun
namespace Go.Proofs.Ytcehdpeeaogpiaa
open Go.RowKit
set_option linter.unusedSimpArgs false
set_option linter.unusedVariables false
theorem delF_any (x y : Int) (bv : Nat) (w : World) (hc : w.cell? ⟨bv, 0, none⟩ = some (.int .i64 y)) : Calls Try.prog 136 #[.int .i64 x, .pointer (some ⟨bv, 0, none⟩)] w fun e w' => e = .returned (.bool (x == y)) ∧ w = w' := by
  go_enter Try.func136, Try.ntmps136
  go_wp2
  go_ret
  exact ⟨rfl, rfl⟩
set_option maxRecDepth 100000 in
set_option maxHeartbeats 1000000 in
theorem idxF_any (y : Int) (bv : Nat) (an : Option Addr) (cn m : Nat) (xs : List Int) (w : World) (B : Nat) (hB : B ≤ w.heap.size) (hm : xs.length = m) (hE : Row encI 1 w B an xs) (hc : w.cell? ⟨bv, 0, none⟩ = some (.int .i64 y)) (hm2 : m ≤ 1000000) :
    Calls Try.prog 176 #[.slice an m cn, .func (.func 136) #[] #[.pointer (some ⟨bv, 0, none⟩)]] w fun e w' => e = .returned (.int .i64 (firstB (eqs y xs) 0)) ∧ Below w.heap.size w w' := by
  obtain ⟨bs, hbse⟩ : ∃ bs, bs = eqs y xs := ⟨_, rfl⟩
  have hbl := hide (show bs.length = m by rw [hbse]; simp [eqs, hm])
  have hbb := hide (show ∀ k (h : k < xs.length) (h2 : k < bs.length), bs[k] = (xs[k] == y) from fun k h h2 => by subst hbse; simp [eqs])
  rw [← hbse]
  clear hbse
  replace hE := hide hE
  replace hm := hide hm
  have z1 := cell_lt hc
  go_enter Try.func176, Try.ntmps176
  go_wp2
  go_loopw [5, 8] (fun _ i wr => ∃ k : Nat, k ≤ m ∧ i = .int .i64 k ∧ Hid (firstB bs 0 = firstB (bs.drop k) k) ∧ Hid (Below w.heap.size w wr)) (fun _ i _ => m - (intOf i).toNat)
  case atStart => exact ⟨0, Nat.zero_le _, rfl, hide rfl, hide (Below.refl _ _)⟩
  case round =>
    obtain ⟨k, hk2, rfl, hrest, hb'⟩ := hrel
    have hz := hb'.out.size
    by_cases hlt : k < m
    · have hk' : k < xs.length := by have := hm.out; omega
      have hk'' : k < bs.length := by have := hbl.out; omega
      obtain ⟨b4, o4, rfl, hbB, f1⟩ := hE.out.int k hk'
      have f1 := cu_below hb'.out f1 (by simp; omega)
      have hbr : b4 < wr.heap.size := by omega
      have hv := hide (hbb.out k hk' hk'')
      have hit := hide (firstB_hit hk'')
      have miss := hide (firstB_miss hk'')
      have ik : (0 : Int) ≤ (k : Int) ∧ (k : Int) < (m : Int) := by omega
      generalize xs[k] = x at f1 hv
      have hcr := cu_below hb'.out hc z1
      have hT := hide (fun (w' : World) (hb : Below wr.heap.size wr w') => delF_any x y bv w' (cu_below hb hcr (cell_lt hcr)))
      obtain ⟨t, ht⟩ : ∃ t, t = (x == y) := ⟨_, rfl⟩
      rw [← ht] at hT hv
      replace ht := hide ht
      cases t with
      | true =>
        have hfin := hide (show (k : Int) = firstB bs 0 by rw [hrest.out, hit.out hv.out])
        go_wp2_with fail
        refine (hT.out _ (by first | exact Below.refl _ _ | exact below_drew _)).mono ?_
        rintro e w1 ⟨rfl, rfl⟩
        go_wp2
        go_ret
        exact ⟨ret_int hfin.out, hb'.out⟩
      | false =>
        have hnx := hide (show firstB bs 0 = firstB (bs.drop (k + 1)) (k + 1) by rw [hrest.out, miss.out hv.out])
        go_wp2_with fail
        refine (hT.out _ (by first | exact Below.refl _ _ | exact below_drew _)).mono ?_
        rintro e w1 ⟨rfl, rfl⟩
        go_wp2
        go_roundw
        case rel => exact ⟨k + 1, by omega, by go_num, hnx, hb'⟩
        case measure => simp [intOf]; omega
    · obtain rfl : k = m := by omega
      have hfin := hide (show -1 = firstB bs 0 by rw [hrest.out, firstB_end (by rw [hbl.out]; exact Nat.le_refl _)])
      go_wp2
      go_ret
      exact ⟨ret_int hfin.out, hb'.out⟩
set_option maxRecDepth 100000 in
set_option maxHeartbeats 4000000 in
theorem delIF_any (y : Int) (bv : Nat) (an : Option Addr) (cn m base : Nat) (xs : List Int) (hm : xs.length = m) (w : World) (own0 : Own encI 1 3 w base (.slice an m cn) xs) (hne : (Value.slice an m cn).ownBlock ≠ some bv) (hc : w.cell? ⟨bv, 0, none⟩ = some (.int .i64 y)) (hm2 : m ≤ 1000000) :
    Calls Try.prog 111 #[.slice an m cn, .func (.func 136) #[] #[.pointer (some ⟨bv, 0, none⟩)]] w (DelAns y xs base (.slice an m cn) w) := by
  have hrow0 : Row encI 1 w w.heap.size an xs := by
    obtain ⟨a', cap, hv, hr, _⟩ := own0.row lenI
    simp only [Value.slice.injEq] at hv
    rw [hv.1]
    exact hr
  have hI := hide (idxF_any y bv an cn m xs w w.heap.size (Nat.le_refl _) hm hrow0 hc hm2)
  have hD := hide (fun (x : Int) (w' : World) => delF_any x y bv w')
  have z1 := cell_lt hc
  rcases firstB_say (eqs y xs) 0 with ⟨h1, h2⟩ | ⟨i0, hi0, h1, h2, h3⟩
  · rw [h1] at hI
    have hall := hide (dels_none h2)
    replace own0 := hide own0
    replace hm := hide hm
    clear hc h1 h2 hrow0
    go_enter Try.func111, Try.ntmps111
    go_wp2_with fail
    refine hI.out.mono ?_
    rintro e w1 ⟨rfl, hb1⟩
    have hr1 := hide (own0.out.stays hb1)
    have hk1 := hide (show Keep (fun j => (Value.slice an m cn).ownBlock = some j) w w1 from Keep.new hb1)
    go_wp2
    go_ret
    refine ⟨an, cn, by rw [hall.out, hm.out]; rfl, by rw [hall.out, hm.out]; exact hr1.out, hk1.out, fun b hb => ?_⟩
    cases an with
    | none => simp [Value.ownBlock] at hb
    | some a => exact hb
  · rw [h1, Nat.zero_add] at hI
    have hi1 : i0 < xs.length := by simpa [eqs] using hi0
    have hfst := hide (dels_first hi1 (by simpa [eqs] using h2) (fun t ht => by simpa [eqs] using h3 t ht))
    obtain ⟨g, rfl, hg1, hg2⟩ := own0.blockI' (by omega)
    have hgb : g ≠ bv := fun e => hne (by rw [e]; rfl)
    have hmc : m ≤ cn := by
      obtain ⟨_, _, hv', _, hle, _⟩ := own0.row lenI
      injection hv' with g1 g2 g3
      omega
    have him : i0 < m := by omega
    have hneg : ((i0 : Int) == -1) = false := by first | (simp; done) | (simp; omega)
    replace own0 := hide own0
    replace hm := hide hm
    replace hc := hide hc
    clear h1 h2 h3 hi0 hi1 hrow0 hne
    go_enter Try.func111, Try.ntmps111
    go_wp2_with fail
    refine hI.out.mono ?_
    rintro e w1 ⟨rfl, hb1⟩
    have own1 := hide (own0.out.stays hb1)
    have hk1 := hide (show Keep (fun j => j = g) w w1 from Keep.new hb1)
    clear hb1 hI
    go_wp2
    clear hneg
    go_loopw [5, 6, 7] (fun s5 s6 _ wr => ∃ (j i : Nat) (ys : List Int), i < j ∧ j ≤ m ∧ s5 = .int .i64 i ∧ s6 = .int .i64 j ∧ Hid (ys.length = m) ∧ Hid (dels y (xs.take j) = ys.take i) ∧ Hid (∀ t, j ≤ t → ys[t]? = xs[t]?) ∧ Hid (Own encI 1 3 wr base (.slice (some ⟨g, 0, none⟩) m cn) ys) ∧ Hid (Keep (fun j => j = g) w wr)) (fun _ s6 _ _ => m - (intOf s6).toNat)
    case atStart => exact ⟨i0 + 1, i0, xs, by omega, by omega, rfl, by first | rfl | go_num, hm, hfst, hide (fun t _ => rfl), own1, hk1⟩
    case round =>
      clear own1 hk1
      obtain ⟨j, i, ys, hij, hj, rfl, rfl, hyl, hins, htl, own, hK⟩ := hrel
      have hgl := own.out.at_base.2
      have fr := own.out.free
      by_cases hlt : j < m
      · have hje : j < xs.length := by rw [hm.out]; exact hlt
        have hjy : j < ys.length := by rw [hyl.out]; exact hlt
        have hiy : i < ys.length := by omega
        have hye : ys[j] = xs[j] := by
          have := htl.out j (Nat.le_refl _)
          rw [List.getElem?_eq_getElem hjy, List.getElem?_eq_getElem hje] at this
          exact Option.some.inj this
        have q0 := own.out.getI j hjy
        have p0 := own.out.getI i hiy
        have htk := hide (dels_take (y := y) hje)
        rw [hye] at q0
        obtain ⟨x, hxe⟩ : ∃ x, x = xs[j] := ⟨_, rfl⟩
        rw [← hxe] at q0 htk hye
        have hcr := hK.out.cu hc.out (by simp; omega)
        have hG := hide (hD.out x wr hcr)
        have own6 := hide (own.out.putI i hiy x)
        have hK6 := hide (hK.out.setCell (p := ⟨g, i, none⟩) (.inl rfl) (.int .i64 x))
        generalize ys[i] = yi at p0
        obtain ⟨t, ht⟩ : ∃ t, t = (x == y) := ⟨_, rfl⟩
        rw [← ht] at htk hG
        replace hxe := hide hxe
        replace ht := hide ht
        replace hye := hide hye
        have ij : (0 : Int) ≤ (j : Int) ∧ (j : Int) < (m : Int) := by omega
        have ii : (0 : Int) ≤ (i : Int) ∧ (i : Int) < (m : Int) := by omega
        have fi := fr i
        clear fr
        cases t with
        | false =>
          simp only [Bool.false_eq_true, if_false] at htk
          have htk2 := hide (show (ys.set i x).take (i + 1) = ys.take i ++ [x] by
            rw [List.take_succ_eq_append_getElem (by simpa using hiy), List.getElem_set_self]
            congr 1
            apply List.ext_getElem
            · simp
            · intro t h1 h2
              rw [List.length_take] at h2
              simp only [List.getElem_take]
              rw [List.getElem_set_ne (by omega)])
          go_wp2_with fail
          refine hG.out.mono ?_
          rintro e w5 ⟨rfl, rfl⟩
          go_wp2
          go_roundw
          case rel => exact ⟨j + 1, i + 1, ys.set i x, by omega, by omega, by go_num, by go_num, hide (by rw [List.length_set]; exact hyl.out), hide (by rw [htk.out, htk2.out, hins.out]), hide (fun t ht => by rw [List.getElem?_set_ne (by omega)]; exact htl.out t (by omega)), own6, hK6⟩
          case measure => simp [intOf]; omega
        | true =>
          simp only [if_true, List.append_nil] at htk
          go_wp2_with fail
          refine hG.out.mono ?_
          rintro e w5 ⟨rfl, rfl⟩
          go_wp2
          go_roundw
          case rel => exact ⟨j + 1, i, ys, by omega, by omega, by go_num, by go_num, hyl, hide (by rw [htk.out]; exact hins.out), hide (fun t ht => htl.out t (by omega)), own, hK⟩
          case measure => simp [intOf]; omega
      · obtain rfl : j = m := by omega
        have hcl := fun ty => Lib.run_clear_slice (P := Try.prog) wr 29 3 ty (.int .i64 0) Try.underlying29 zeroI rfl rfl g i (j - i) (cn - i) (by omega) (fun t ht => by rw [own.out.getI (i + t) (by rw [hyl.out]; omega)]; rfl) (fun t _ => fr _)
        have hins2 := hins.out
        rw [List.take_of_length_le (by have := hm.out; omega)] at hins2
        have hpl := hide (show (dels y xs).length = i by rw [hins2, List.length_take]; have := hyl.out; omega)
        have hfin := hide (show Own encI 1 3 (wr.setCells g i (List.replicate (j - i) (.int .i64 0))) base (.slice (some ⟨g, 0, none⟩) i cn) (dels y xs) ∧ Keep (fun j => j = g) w (wr.setCells g i (List.replicate (j - i) (.int .i64 0))) from by
          refine ⟨?_, Keep.setCellsI (S := fun j => j = g) (b := g) rfl _ _ _ hK.out⟩
          obtain ⟨zs, h4, h5⟩ := Own.wipeI (j - i) i wr ys own.out (by omega)
          rw [hins2, ← h5]
          have h6 := Own.takeI (j - i) i zs (by rw [show i + (j - i) = j by omega]; exact h4)
          exact h6)
        have hij2 : i ≤ j := by omega
        have hic : i ≤ cn := by omega
        replace hfst := hide hfst
        go_wp2_with (simp only [hcl])
        go_ret
        exact ⟨some ⟨g, 0, none⟩, cn, by rw [hpl.out]; rfl, by rw [hpl.out]; exact hfin.out.1, hfin.out.2.mono (fun t _ h => by subst h; rfl), fun b hb => by simpa [Value.ownBlock] using hb⟩
end Go.Proofs.Ytcehdpeeaogpiaa
