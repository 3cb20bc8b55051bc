/-
  A part of the proof of ServePlays: AME
-/
import Derived.Test.YtccailcjclbhlaaGreatServePlaysA2
import Derived.Test.YtccailcjclbhlaaGreatServePlaysA1
import Derived.Lib.SliceRun
import Derived.WideKeyEntry
import Derived.Test.YtccailcjclbhlaaGreatServePlaysA12
import Derived.Test.YtccailcjclbhlaaGreatServePlaysA6
/-! Several texts in one: -/
/-! The reference's Rounds: the place taken is deleted from those that wait (slices.DeleteFunc with Step$1). Conditions: that the slice is the call's own. -/
namespace Go.Proofs.YtccailcjclbhlaaGreat
open Go.RowKit
set_option linter.unusedSimpArgs false
set_option linter.unusedVariables false
theorem delQ_any (x y : Int) (bv : Nat) (w : World) (hc : w.cell? ⟨bv, 0, none⟩ = some (.int .i64 y)) : Calls Tryz.prog 55 #[.int .i64 x, .pointer (some ⟨bv, 0, none⟩)] w fun e w' => e = .returned (.bool (x == y)) ∧ w = w' := by
  go_enter Tryz.func55, Tryz.ntmps55
  go_wp2
  go_ret
  exact ⟨rfl, rfl⟩
set_option maxRecDepth 100000 in
set_option maxHeartbeats 1000000 in
theorem idxQ_any (y : Int) (bv : Nat) (an : Option Addr) (cn m : Nat) (xs : List Int) (w : World) (B : Nat) (hB : B ≤ w.heap.size) (hm : xs.length = m) (hE : Row encI 1 w B an xs) (hc : w.cell? ⟨bv, 0, none⟩ = some (.int .i64 y)) (hm2 : m ≤ 1000000) :
    Calls Tryz.prog 77 #[.slice an m cn, .func (.func 55) #[] #[.pointer (some ⟨bv, 0, none⟩)]] w fun e w' => e = .returned (.int .i64 (firstB (eqs y xs) 0)) ∧ Below w.heap.size w w' := by
  obtain ⟨bs, hbse⟩ : ∃ bs, bs = eqs y xs := ⟨_, rfl⟩
  have hbl := hide (show bs.length = m by rw [hbse]; simp [eqs, hm])
  have hbb := hide (show ∀ k (h : k < xs.length) (h2 : k < bs.length), bs[k] = (xs[k] == y) from fun k h h2 => by subst hbse; simp [eqs])
  rw [← hbse]
  clear hbse
  replace hE := hide hE
  replace hm := hide hm
  have z1 := cell_lt hc
  go_enter Tryz.func77, Tryz.ntmps77
  go_wp2
  go_loopw [5, 8] (fun _ i wr => ∃ k : Nat, k ≤ m ∧ i = .int .i64 k ∧ Hid (firstB bs 0 = firstB (bs.drop k) k) ∧ Hid (Below w.heap.size w wr)) (fun _ i _ => m - (intOf i).toNat)
  case atStart => exact ⟨0, Nat.zero_le _, rfl, hide rfl, hide (Below.refl _ _)⟩
  case round =>
    obtain ⟨k, hk2, rfl, hrest, hb'⟩ := hrel
    have hz := hb'.out.size
    by_cases hlt : k < m
    · have hk' : k < xs.length := by have := hm.out; omega
      have hk'' : k < bs.length := by have := hbl.out; omega
      obtain ⟨b4, o4, rfl, hbB, f1⟩ := hE.out.int k hk'
      have f1 := cu_below hb'.out f1 (by simp; omega)
      have hbr : b4 < wr.heap.size := by omega
      have hv := hide (hbb.out k hk' hk'')
      have hit := hide (firstB_hit hk'')
      have miss := hide (firstB_miss hk'')
      have ik : (0 : Int) ≤ (k : Int) ∧ (k : Int) < (m : Int) := by omega
      generalize xs[k] = x at f1 hv
      have hcr := cu_below hb'.out hc z1
      have hT := hide (fun (w' : World) (hb : Below wr.heap.size wr w') => delQ_any x y bv w' (cu_below hb hcr (cell_lt hcr)))
      obtain ⟨t, ht⟩ : ∃ t, t = (x == y) := ⟨_, rfl⟩
      rw [← ht] at hT hv
      replace ht := hide ht
      cases t with
      | true =>
        have hfin := hide (show (k : Int) = firstB bs 0 by rw [hrest.out, hit.out hv.out])
        go_wp2_with fail
        refine (hT.out _ (by first | exact Below.refl _ _ | exact below_drew _)).mono ?_
        rintro e w1 ⟨rfl, rfl⟩
        go_wp2
        go_ret
        exact ⟨ret_int hfin.out, hb'.out⟩
      | false =>
        have hnx := hide (show firstB bs 0 = firstB (bs.drop (k + 1)) (k + 1) by rw [hrest.out, miss.out hv.out])
        go_wp2_with fail
        refine (hT.out _ (by first | exact Below.refl _ _ | exact below_drew _)).mono ?_
        rintro e w1 ⟨rfl, rfl⟩
        go_wp2
        go_roundw
        case rel => exact ⟨k + 1, by omega, by go_num, hnx, hb'⟩
        case measure => simp [intOf]; omega
    · obtain rfl : k = m := by omega
      have hfin := hide (show -1 = firstB bs 0 by rw [hrest.out, firstB_end (by rw [hbl.out]; exact Nat.le_refl _)])
      go_wp2
      go_ret
      exact ⟨ret_int hfin.out, hb'.out⟩
set_option maxRecDepth 100000 in
set_option maxHeartbeats 4000000 in
theorem delIQ_any (y : Int) (bv : Nat) (an : Option Addr) (cn m base : Nat) (xs : List Int) (hm : xs.length = m) (w : World) (own0 : Own encI 1 3 w base (.slice an m cn) xs) (hne : (Value.slice an m cn).ownBlock ≠ some bv) (hc : w.cell? ⟨bv, 0, none⟩ = some (.int .i64 y)) (hm2 : m ≤ 1000000) :
    Calls Tryz.prog 54 #[.slice an m cn, .func (.func 55) #[] #[.pointer (some ⟨bv, 0, none⟩)]] w (DelAns y xs base (.slice an m cn) w) := by
  have hrow0 : Row encI 1 w w.heap.size an xs := by
    obtain ⟨a', cap, hv, hr, _⟩ := own0.row lenI
    simp only [Value.slice.injEq] at hv
    rw [hv.1]
    exact hr
  have hI := hide (idxQ_any y bv an cn m xs w w.heap.size (Nat.le_refl _) hm hrow0 hc hm2)
  have hD := hide (fun (x : Int) (w' : World) => delQ_any x y bv w')
  have z1 := cell_lt hc
  rcases firstB_say (eqs y xs) 0 with ⟨h1, h2⟩ | ⟨i0, hi0, h1, h2, h3⟩
  · rw [h1] at hI
    have hall := hide (dels_none h2)
    replace own0 := hide own0
    replace hm := hide hm
    clear hc h1 h2 hrow0
    go_enter Tryz.func54, Tryz.ntmps54
    go_wp2_with fail
    refine hI.out.mono ?_
    rintro e w1 ⟨rfl, hb1⟩
    have hr1 := hide (own0.out.stays hb1)
    have hk1 := hide (show Keep (fun j => (Value.slice an m cn).ownBlock = some j) w w1 from Keep.new hb1)
    go_wp2
    go_ret
    refine ⟨an, cn, by rw [hall.out, hm.out]; rfl, by rw [hall.out, hm.out]; exact hr1.out, hk1.out, fun b hb => ?_⟩
    cases an with
    | none => simp [Value.ownBlock] at hb
    | some a => exact hb
  · rw [h1, Nat.zero_add] at hI
    have hi1 : i0 < xs.length := by simpa [eqs] using hi0
    have hfst := hide (dels_first hi1 (by simpa [eqs] using h2) (fun t ht => by simpa [eqs] using h3 t ht))
    obtain ⟨g, rfl, hg1, hg2⟩ := own0.blockI' (by omega)
    have hgb : g ≠ bv := fun e => hne (by rw [e]; rfl)
    have hmc : m ≤ cn := by
      obtain ⟨_, _, hv', _, hle, _⟩ := own0.row lenI
      injection hv' with g1 g2 g3
      omega
    have him : i0 < m := by omega
    have hneg : ((i0 : Int) == -1) = false := by first | (simp; done) | (simp; omega)
    replace own0 := hide own0
    replace hm := hide hm
    replace hc := hide hc
    clear h1 h2 h3 hi0 hi1 hrow0 hne
    go_enter Tryz.func54, Tryz.ntmps54
    go_wp2_with fail
    refine hI.out.mono ?_
    rintro e w1 ⟨rfl, hb1⟩
    have own1 := hide (own0.out.stays hb1)
    have hk1 := hide (show Keep (fun j => j = g) w w1 from Keep.new hb1)
    clear hb1 hI
    go_wp2
    clear hneg
    go_loopw [5, 6, 7] (fun s5 s6 _ wr => ∃ (j i : Nat) (ys : List Int), i < j ∧ j ≤ m ∧ s5 = .int .i64 i ∧ s6 = .int .i64 j ∧ Hid (ys.length = m) ∧ Hid (dels y (xs.take j) = ys.take i) ∧ Hid (∀ t, j ≤ t → ys[t]? = xs[t]?) ∧ Hid (Own encI 1 3 wr base (.slice (some ⟨g, 0, none⟩) m cn) ys) ∧ Hid (Keep (fun j => j = g) w wr)) (fun _ s6 _ _ => m - (intOf s6).toNat)
    case atStart => exact ⟨i0 + 1, i0, xs, by omega, by omega, rfl, by first | rfl | go_num, hm, hfst, hide (fun t _ => rfl), own1, hk1⟩
    case round =>
      clear own1 hk1
      obtain ⟨j, i, ys, hij, hj, rfl, rfl, hyl, hins, htl, own, hK⟩ := hrel
      have hgl := own.out.at_base.2
      have fr := own.out.free
      by_cases hlt : j < m
      · have hje : j < xs.length := by rw [hm.out]; exact hlt
        have hjy : j < ys.length := by rw [hyl.out]; exact hlt
        have hiy : i < ys.length := by omega
        have hye : ys[j] = xs[j] := by
          have := htl.out j (Nat.le_refl _)
          rw [List.getElem?_eq_getElem hjy, List.getElem?_eq_getElem hje] at this
          exact Option.some.inj this
        have q0 := own.out.getI j hjy
        have p0 := own.out.getI i hiy
        have htk := hide (dels_take (y := y) hje)
        rw [hye] at q0
        obtain ⟨x, hxe⟩ : ∃ x, x = xs[j] := ⟨_, rfl⟩
        rw [← hxe] at q0 htk hye
        have hcr := hK.out.cu hc.out (by simp; omega)
        have hG := hide (hD.out x wr hcr)
        have own6 := hide (own.out.putI i hiy x)
        have hK6 := hide (hK.out.setCell (p := ⟨g, i, none⟩) (.inl rfl) (.int .i64 x))
        generalize ys[i] = yi at p0
        obtain ⟨t, ht⟩ : ∃ t, t = (x == y) := ⟨_, rfl⟩
        rw [← ht] at htk hG
        replace hxe := hide hxe
        replace ht := hide ht
        replace hye := hide hye
        have ij : (0 : Int) ≤ (j : Int) ∧ (j : Int) < (m : Int) := by omega
        have ii : (0 : Int) ≤ (i : Int) ∧ (i : Int) < (m : Int) := by omega
        have fi := fr i
        clear fr
        cases t with
        | false =>
          simp only [Bool.false_eq_true, if_false] at htk
          have htk2 := hide (show (ys.set i x).take (i + 1) = ys.take i ++ [x] by
            rw [List.take_succ_eq_append_getElem (by simpa using hiy), List.getElem_set_self]
            congr 1
            apply List.ext_getElem
            · simp
            · intro t h1 h2
              rw [List.length_take] at h2
              simp only [List.getElem_take]
              rw [List.getElem_set_ne (by omega)])
          go_wp2_with fail
          refine hG.out.mono ?_
          rintro e w5 ⟨rfl, rfl⟩
          go_wp2
          go_roundw
          case rel => exact ⟨j + 1, i + 1, ys.set i x, by omega, by omega, by go_num, by go_num, hide (by rw [List.length_set]; exact hyl.out), hide (by rw [htk.out, htk2.out, hins.out]), hide (fun t ht => by rw [List.getElem?_set_ne (by omega)]; exact htl.out t (by omega)), own6, hK6⟩
          case measure => simp [intOf]; omega
        | true =>
          simp only [if_true, List.append_nil] at htk
          go_wp2_with fail
          refine hG.out.mono ?_
          rintro e w5 ⟨rfl, rfl⟩
          go_wp2
          go_roundw
          case rel => exact ⟨j + 1, i, ys, by omega, by omega, by go_num, by go_num, hyl, hide (by rw [htk.out]; exact hins.out), hide (fun t ht => htl.out t (by omega)), own, hK⟩
          case measure => simp [intOf]; omega
      · obtain rfl : j = m := by omega
        have hcl := fun ty => Lib.run_clear_slice (P := Tryz.prog) wr 22 3 ty (.int .i64 0) Tryz.underlying22 zeroI rfl rfl g i (j - i) (cn - i) (by omega) (fun t ht => by rw [own.out.getI (i + t) (by rw [hyl.out]; omega)]; rfl) (fun t _ => fr _)
        have hins2 := hins.out
        rw [List.take_of_length_le (by have := hm.out; omega)] at hins2
        have hpl := hide (show (dels y xs).length = i by rw [hins2, List.length_take]; have := hyl.out; omega)
        have hfin := hide (show Own encI 1 3 (wr.setCells g i (List.replicate (j - i) (.int .i64 0))) base (.slice (some ⟨g, 0, none⟩) i cn) (dels y xs) ∧ Keep (fun j => j = g) w (wr.setCells g i (List.replicate (j - i) (.int .i64 0))) from by
          refine ⟨?_, Keep.setCellsI (S := fun j => j = g) (b := g) rfl _ _ _ hK.out⟩
          obtain ⟨zs, h4, h5⟩ := Own.wipeI (j - i) i wr ys own.out (by omega)
          rw [hins2, ← h5]
          have h6 := Own.takeI (j - i) i zs (by rw [show i + (j - i) = j by omega]; exact h4)
          exact h6)
        have hij2 : i ≤ j := by omega
        have hic : i ≤ cn := by omega
        replace hfst := hide hfst
        go_wp2_with (simp only [hcl])
        go_ret
        exact ⟨some ⟨g, 0, none⟩, cn, by rw [hpl.out]; rfl, by rw [hpl.out]; exact hfin.out.1, hfin.out.2.mono (fun t _ h => by subst h; rfl), fun b hb => by simpa [Value.ownBlock] using hb⟩
end Go.Proofs.YtccailcjclbhlaaGreat

/-! A map from numbers to numbers that the call made: a store in two steps, as an assignment to several places does it (the entry first, then the value). Conditions: the key and the value fit 64 bits. -/
namespace Go.Proofs.YtccailcjclbhlaaGreat
open Go.RowKit Go.Maps Go.ChangeMaps
set_option linter.unusedSimpArgs false
set_option linter.unusedVariables false
theorem blk_twice (w : World) (b : Nat) (o o' : Obj) : setBlock (setBlock w b o) b o' = setBlock w b o' := by simp [setBlock]
theorem blk_grown (w : World) (b : Nat) (o : Obj) : w.grownBy (setBlock w b o) (some b) :=
  ⟨rfl, rfl, rfl, by simp [setBlock], fun k _ hne => by
    show (w.heap.setIfInBounds b o)[k]? = w.heap[k]?
    rw [Array.getElem?_setIfInBounds_ne (fun e => hne (by rw [e]))]⟩
/-- what the two steps do at a key of numbers: the entry is found or made, its stamp finds it again -/
theorem int_entry {w : World} {t b : Nat} {R : Value → Option (DataW Unit × List MemPlace)} {es : Array MapEntry} {clock : Nat} (ht : Tryz.prog.underlying t = some (.map 3 3)) (hb : w.heap[b]? = some (.map es clock)) (F : WideElems.Fit Tryz.prog 3 R es clock) {x : Int} (hx : Bd x) :
    ∃ (v0 : Value) (st : Nat) (es1 : Array MapEntry) (k1 : Nat), (Instr.mapEntry t (.map (some b)) (.int .i64 x)).run Tryz.prog w = .ok (.tuple #[v0, goInt st]) (setBlock w b (.map es1 k1)) ∧
      ∀ val : Value, ∃ es2 k2, (Instr.entryStore t (.map (some b)) (goInt st) val).run Tryz.prog (setBlock w b (.map es1 k1)) = .ok () (setBlock w b (.map es2 k2)) ∧ (Instr.mapUpdate t (.map (some b)) (.int .i64 x) val).run Tryz.prog w = .ok () (setBlock w b (.map es2 k2)) := by
  have hk := key_int hx
  have hst := F.stamped
  rcases int_law.find w hk es.toList F.keys with ⟨hno, hne⟩ | ⟨j, e0, hyes, hj, hk0⟩
  · have hw2 := heap_setBlock_same hb (.map (es.push ⟨.int .i64 x, .int .i64 0, clock⟩) (clock + 1))
    refine ⟨.int .i64 0, clock, es.push ⟨.int .i64 x, .int .i64 0, clock⟩, clock + 1, ?_, fun val => ⟨es.push ⟨.int .i64 x, val, clock⟩, clock + 1, ?_, ?_⟩⟩
    · simp [Instr.mapEntry, run_underlying ht, MapKept.run_getObj_map hb, int_law.check w false hk, hno, zero_int, MapKept.run_setObj_map _ hb, Result.andThen, setBlock]
    · have hfi : (es.push ⟨.int .i64 x, .int .i64 0, clock⟩).findIdx? (fun e => ((e.born : Nat) : Int) == ((clock : Nat) : Int)) = some es.size := by
        rw [WideElems.findIdx_arr]
        refine WideElems.findIdx_born (e0 := ⟨.int .i64 x, .int .i64 0, clock⟩) ?_ (by simp)
        rw [Array.toList_push, List.map_append]
        refine List.nodup_append.2 ⟨hst.2.1, by simp, fun a ha c hc he => ?_⟩
        obtain ⟨z, hz, rfl⟩ := List.mem_map.1 ha
        have h1 := hst.1 z hz
        have h2 : c = clock := by simpa using hc
        omega
      have hmo : (es.push ⟨.int .i64 x, .int .i64 0, clock⟩).modify es.size (fun e => { e with val := val }) = es.push ⟨.int .i64 x, val, clock⟩ := by
        apply Array.ext'
        rw [Array.toList_modify, Array.toList_push, Array.toList_push, ← Array.length_toList, WideElems.modify_last]
      have hall : ∀ w2 : World, w2.heap[b]? = some (.map (es.push ⟨.int .i64 x, .int .i64 0, clock⟩) (clock + 1)) → (Instr.entryStore t (.map (some b)) (goInt clock) val).run Tryz.prog w2 = .ok () (setBlock w2 b (.map (es.push ⟨.int .i64 x, val, clock⟩) (clock + 1))) := fun w2 hw3 => by
        simp [Instr.entryStore, MapKept.run_getObj_map hw3, asInt, asIntOf, goInt, hfi, hmo, MapKept.run_setObj_map _ hw3, Result.andThen, setBlock]
      have := hall _ hw2
      rwa [blk_twice] at this
    · simp [Instr.mapUpdate, run_underlying ht, MapKept.run_getObj_map hb, int_law.check w false hk, hno, MapKept.run_setObj_map _ hb, Result.andThen, setBlock]
  · have hja : es[j]? = some e0 := by simpa using hj
    have hsa : es.modify j (fun e => { e with key := .int .i64 x }) = es := by
      apply Array.ext'
      rw [Array.toList_modify, modify_eq_set _ _ _ _ hj, show ({ e0 with key := .int .i64 x } : MapEntry) = e0 by rw [← hk0]]
      exact WideElems.set_self _ _ _ hj
    have hw2 := heap_setBlock_same hb (.map es clock)
    refine ⟨e0.val, e0.born, es, clock, ?_, fun val => ⟨es.modify j (fun e' => { e' with key := .int .i64 x, val := val }), clock, ?_, ?_⟩⟩
    · simp [Instr.mapEntry, run_underlying ht, MapKept.run_getObj_map hb, int_law.check w false hk, hyes, hja, hk0, int_law.stays w hk, hsa, MapKept.run_setObj_map _ hb, Result.andThen, setBlock]
    · have hfi : es.findIdx? (fun e => ((e.born : Nat) : Int) == ((e0.born : Nat) : Int)) = some j := by
        rw [WideElems.findIdx_arr]
        exact WideElems.findIdx_born hst.2.1 hj
      have hmo : es.modify j (fun e => { e with val := val }) = es.modify j (fun e' => { e' with key := .int .i64 x, val := val }) := by
        apply Array.ext'
        rw [Array.toList_modify, Array.toList_modify, modify_eq_set _ _ _ _ hj, modify_eq_set _ _ _ _ hj, ← hk0]
      have hall : ∀ w2 : World, w2.heap[b]? = some (.map es clock) → (Instr.entryStore t (.map (some b)) (goInt e0.born) val).run Tryz.prog w2 = .ok () (setBlock w2 b (.map (es.modify j (fun e' => { e' with key := .int .i64 x, val := val })) clock)) := fun w2 hw3 => by
        simp [Instr.entryStore, MapKept.run_getObj_map hw3, asInt, asIntOf, goInt, hfi, hmo, MapKept.run_setObj_map _ hw3, Result.andThen, setBlock]
      have := hall _ hw2
      rwa [blk_twice] at this
    · simp [Instr.mapUpdate, run_underlying ht, MapKept.run_getObj_map hb, int_law.check w false hk, hyes, hja, hk0, int_law.stays w hk, MapKept.run_setObj_map _ hb, Result.andThen, setBlock]
/-- the store in two steps -/
theorem IMap.entry {w : World} {b n : Nat} {f : Int → Option Int} (h : IMap w b n f) (t : TypeId) (ht : Tryz.prog.underlying t = some (.map 3 3)) (hn : n ≤ 1000000000) {x y : Int} (hx : Bd x) (hy : Bd y) :
    ∃ (v0 : Value) (st : Int) (W1 W2 : World), (Instr.mapEntry t (.map (some b)) (.int .i64 x)).run Tryz.prog w = .ok (.tuple #[v0, .int .i64 st]) W1 ∧ (Instr.entryStore t (.map (some b)) (.int .i64 st) (.int .i64 y)).run Tryz.prog W1 = .ok () W2 ∧ IMap W2 b (n + 1) (setM f x y) ∧ w.grownBy W2 (some b) ∧ w.grownBy W1 (some b) := by
  obtain ⟨w', hrun, him, hg⟩ := h.update t ht hn hx hy
  obtain ⟨D, hown, hm2, hf⟩ := h
  obtain ⟨es, clock, hb, F, hs, hD⟩ := hown
  obtain ⟨v0, st, es1, k1, h1, h2⟩ := int_entry ht hb F hx
  obtain ⟨es2, k2, h3, h4⟩ := h2 (.int .i64 y)
  rw [hrun] at h4
  injection h4 with _ h5
  subst h5
  exact ⟨v0, (st : Int), _, _, h1, h3, him, hg, blk_grown w b _⟩
end Go.Proofs.YtccailcjclbhlaaGreat

/-! The document's search by rounds: what Step does. Conditions: the object reads as RXf says, the constants as AC says, it is not over. -/
namespace Go.Proofs.YtccailcjclbhlaaGreat
open Go.RowKit
set_option linter.unusedSimpArgs false
set_option linter.unusedVariables false
/-- its lists, while the edges from a place are gone through -/
structure ALq (n : Nat) (s : AS) (wl ol ll : List Nat) : Prop where
  nd : wl.Nodup
  iw : ∀ v, v ∈ wl ↔ v < n ∧ s.wt v = true
  ik : ∀ v, v ∈ ol ↔ s.lk v = true
  od : ol.Nodup
  ia : LaL s ll
theorem alq_look {n : Nat} {es : List Ed} {s : AS} {wl ol ll : List Nat} (h : AL n es s wl ol ll) {v : Nat} (hv : s.lk v = false) : ALq n (alook s v) (wl.filter fun x => decide (x ≠ v)) (ol ++ [v]) ll := by
  refine ⟨h.nd.filter _, fun u => ?_, fun u => ?_, ?_, h.ia⟩
  · rw [List.mem_filter, h.iw]
    show (u < n ∧ s.wt u = true) ∧ decide (u ≠ v) = true ↔ u < n ∧ upz s.wt v false u = true
    by_cases huv : u = v
    · subst huv; simp [upz_same]
    · rw [upz_other _ _ huv]; simp [huv]
  · rw [List.mem_append, List.mem_singleton, h.ik]
    show s.lk u = true ∨ u = v ↔ upz s.lk v true u = true
    by_cases huv : u = v
    · subst huv; simp [upz_same]
    · rw [upz_other _ _ huv]; simp [huv]
  · refine List.nodup_append.2 ⟨h.od, by simp, fun a ha b hb => ?_⟩
    rw [List.mem_singleton] at hb
    subst hb
    intro e
    subst e
    have := (h.ik a).1 ha
    rw [hv] at this
    cases this
theorem aedge_yes {h : Nat → Int} {v : Nat} {s : AS} {e : NE} (h1 : e.u = v) (h2 : h e.v ≠ FAR) (h3 : s.cost v + e.c < s.cost e.v) : aedge h v s e = { s with cost := upz s.cost e.v (s.cost v + e.c), pred := upz s.pred e.v (v : Int), wt := if s.lk e.v = true then s.wt else upz s.wt e.v true, la := if s.lk e.v = true then upz s.la e.v true else s.la } := if_pos ⟨h1, h2, h3⟩
theorem aedge_no {h : Nat → Int} {v : Nat} {s : AS} {e : NE} (hc : ¬ (e.u = v ∧ h e.v ≠ FAR ∧ s.cost v + e.c < s.cost e.v)) : aedge h v s e = s := if_neg hc
theorem alq_late {n u : Nat} {s : AS} {wl ol ll : List Nat} (h : ALq n s wl ol ll) (hu : u ∈ ol) (c : Int) (p : Nat → Int) : ALq n { s with cost := upz s.cost u c, pred := p, wt := if s.lk u = true then s.wt else upz s.wt u true, la := if s.lk u = true then upz s.la u true else s.la } wl ol (ll ++ [u]) := by
  have hk := (h.ik u).1 hu
  refine ⟨h.nd, fun z => ?_, h.ik, h.od, fun z => ?_⟩
  · rw [h.iw]
    show _ ↔ z < n ∧ (if s.lk u = true then s.wt else upz s.wt u true) z = true
    rw [if_pos hk]
  · show (if s.lk u = true then upz s.la u true else s.la) z = true ↔ z ∈ ll ++ [u]
    rw [if_pos hk, List.mem_append, List.mem_singleton]
    by_cases hz : z = u
    · subst hz; simp [upz_same]
    · rw [upz_other _ _ hz, h.ia z]; simp [hz]
theorem alq_old {n u : Nat} {s : AS} {wl ol ll : List Nat} (h : ALq n s wl ol ll) (hu : u ∉ ol) (hw : u ∈ wl) (c : Int) (p : Nat → Int) : ALq n { s with cost := upz s.cost u c, pred := p, wt := if s.lk u = true then s.wt else upz s.wt u true, la := if s.lk u = true then upz s.la u true else s.la } wl ol ll := by
  have hk : ¬ s.lk u = true := fun e => hu ((h.ik u).2 e)
  have hw2 := (h.iw u).1 hw
  refine ⟨h.nd, fun z => ?_, h.ik, h.od, fun z => ?_⟩
  · rw [h.iw]
    show _ ↔ z < n ∧ (if s.lk u = true then s.wt else upz s.wt u true) z = true
    rw [if_neg hk]
    by_cases hz : z = u
    · subst hz; rw [upz_same, hw2.2]
    · rw [upz_other _ _ hz]
  · show (if s.lk u = true then upz s.la u true else s.la) z = true ↔ z ∈ ll
    rw [if_neg hk]
    exact h.ia z
theorem alq_new {n u : Nat} {s : AS} {wl ol ll : List Nat} (h : ALq n s wl ol ll) (hun : u < n) (hu : u ∉ ol) (hw : u ∉ wl) (c : Int) (p : Nat → Int) : ALq n { s with cost := upz s.cost u c, pred := p, wt := if s.lk u = true then s.wt else upz s.wt u true, la := if s.lk u = true then upz s.la u true else s.la } (wl ++ [u]) ol ll := by
  have hk : ¬ s.lk u = true := fun e => hu ((h.ik u).2 e)
  refine ⟨?_, fun z => ?_, h.ik, h.od, fun z => ?_⟩
  · refine List.nodup_append.2 ⟨h.nd, by simp, fun a ha b hb => ?_⟩
    rw [List.mem_singleton] at hb
    subst hb
    exact fun e => hw (e ▸ ha)
  · rw [List.mem_append, List.mem_singleton, h.iw]
    show _ ↔ z < n ∧ (if s.lk u = true then s.wt else upz s.wt u true) z = true
    rw [if_neg hk]
    by_cases hz : z = u
    · subst hz; simp [upz_same, hun]
    · rw [upz_other _ _ hz]; simp [hz]
  · show (if s.lk u = true then upz s.la u true else s.la) z = true ↔ z ∈ ll
    rw [if_neg hk]
    exact h.ia z
/-- what each operation of the first statement leaves -/
def FR0 (rb : Nat) (wv hv : Value) (vf : Int) (b0 : Nat) : Nat → Value → Nat → Nat → World → Prop
  | 0, v, _, _, _ => v = .pointer (some ⟨rb, 0, none⟩)
  | 1, v, _, _, _ => v = .pointer (some ⟨rb, 0, none⟩)
  | 2, v, _, _, _ => v = .pointer (some ⟨rb, 8, none⟩)
  | 3, v, _, _, _ => v = wv
  | 4, v, _, _, _ => v = .pointer (some ⟨rb, 0, none⟩)
  | 5, v, _, _, _ => v = .func (.func 53) #[.pointer (some ⟨rb, 0, none⟩)] #[]
  | 6, v, _, _, _ => v = .pointer (some ⟨rb, 0, none⟩)
  | 7, v, _, _, _ => v = .pointer (some ⟨rb, 0, none⟩)
  | 8, v, _, _, _ => v = .pointer (some ⟨rb, 4, none⟩)
  | 9, v, _, _, _ => v = hv
  | 10, v, _, _, _ => v = .int .i64 vf
  | 11, v, lo, hi, w => v = .pointer (some ⟨lo, 0, none⟩) ∧ b0 ≤ lo ∧ lo < hi ∧ w.cell? ⟨lo, 0, none⟩ = some (.int .i64 0) ∧ w.frozen? ⟨lo, 0, none⟩ = false
  | _, _, _, _, _ => True
theorem fr0_stays {rb : Nat} {wv hv : Value} {vf : Int} {b0 : Nat} : ∀ (i : Nat) (v : Value) (lo hi : Nat) (w w' : World), FR0 rb wv hv vf b0 i v lo hi w → Below w.heap.size w w' → FR0 rb wv hv vf b0 i v lo hi w'
  | 0, _, _, _, _, _, h, _ => h
  | 1, _, _, _, _, _, h, _ => h
  | 2, _, _, _, _, _, h, _ => h
  | 3, _, _, _, _, _, h, _ => h
  | 4, _, _, _, _, _, h, _ => h
  | 5, _, _, _, _, _, h, _ => h
  | 6, _, _, _, _, _, h, _ => h
  | 7, _, _, _, _, _, h, _ => h
  | 8, _, _, _, _, _, h, _ => h
  | 9, _, _, _, _, _, h, _ => h
  | 10, _, _, _, _, _, h, _ => h
  | 11, _, _, _, _, _, ⟨h1, h2, h3, h4, h5⟩, hb => ⟨h1, h2, h3, cu_below hb h4 (cell_lt h4), fu_below hb h5 (cell_lt h4)⟩
  | _ + 12, _, _, _, _, _, _, _ => trivial
section
variable [AFr]
variable {n rb mb pb hc m wk el ec : Nat} {ha aw ae : Option Addr} {fr : Int} {h : Nat → Int} {ws : List P2} {es : List Ed} {s : AS} {w1 w : World}
/-- what Step leaves -/
def RStepAns (n rb mb pb : Nat) (ev hv wv : Value) (fr : Int) (tg : Nat) (es : List Ed) (h : Nat → Int) (ws : List P2) (s : AS) (w1 : World) (e : Ending) (w' : World) : Prop :=
  e = .returned (.tuple #[]) ∧ ∃ s', AStep ws es h n tg s s' ∧ RAS n rb mb pb ev hv wv fr (tg : Int) es s' w1 w' ∧ AInv n h s' ∧ s'.told.length ≤ ws.length
set_option maxRecDepth 100000 in
set_option maxHeartbeats 4000000 in
theorem rstep_any (tgN : Nat) (htg : tgN < n) (hA : RAS n rb mb pb (.slice ae el ec) (.slice ha n hc) (.slice aw m wk) fr (tgN : Int) es s w1 w) (hC : AC n rb mb pb mb pb hc m wk el ec ha aw ae h ws es w1) (hs : AInv n h s) (htl : s.told.length < m) (r : P2) (v0 : Nat) (hr : ws[s.told.length]? = some r) (hv0 : ANext r h n s v0) :
    Calls Tryz.prog 39 #[.pointer (some ⟨rb, 0, none⟩)] w (RStepAns n rb mb pb (.slice ae el ec) (.slice ha n hc) (.slice aw m wk) fr tgN es h ws s w1) := by
  obtain ⟨nm, a0, k0, c0, a1, k1, c1, a2, k2, c2, sl, ar, t, rc, ros, hX, ht, hL, hk0, hk1, hk2, hnm⟩ := hA
  have hne : sl 0 ≠ [] := fun e => by have := (hL.iw v0).2 ⟨hv0.1.1, hv0.1.2⟩; rw [e] at this; cases this
  obtain ⟨v, hv1, hv2, hnv⟩ := al_next hL (r := r) (hh := h) hne
  clear hv0
  have hvn := hnv.1.1
  have hvw := hnv.1.2
  have hvl := (hs.ok.wt v hvw).2
  have hvF := (hs.ok.wt v hvw).1
  have hm := hide hC.wl
  have hEd := hide hC.es
  have hn64 := hC.hn
  have hdn := ainv_done hs hn64.2 (Nat.le_of_lt htl) hm.out.2.2
  have hrt : ws[t]? = some r := by rw [ht]; exact hr
  have hFi := hide (fun (w' : World) (hb : Below w.heap.size w w') => by
    have := rfirst_anyA k0 c0 a0 (sl 0) r hrt (hX.stays hb) hC hk0 (by have := al_wlen hL; omega) (own_rowL ((hX.stays hb).os 0 (by omega))) (fun u hu => by have h1 := (hL.iw u).1 hu; exact ⟨h1.1, (hs.ok.wt u h1.2).1⟩) (fun u hu => by rcases hs.ok.cb u with h1 | h1 <;> omega)
    rw [hv1] at this
    exact this)
  have hE := hide hC.er
  have hlst := hide (ainv_expand hs hn64.2 (Nat.le_of_lt htl) hm.out.2.2 hvn hvw (fun e he => by
    obtain ⟨x, hx, rfl⟩ := nes_mem he
    have h1 := hEd.out.1 x hx
    have h2 := hEd.out.2.1 x hx
    exact ⟨h2, by simp only; omega⟩))
  have hmd := hide (amd_start hs.ok hvn hvw)
  have hlq := hide (alq_look hL hvl)
  have hEL := hide (count_mark (E := nes es) hvl)
  have hstep := hide (fun s' (hh : ASettle ws es h n tgN (aexpand (nes es) h v s) s') => (show AStep ws es h n tgN s s' from ⟨r, v, hr, hnv, hh⟩))
  have hln := hide hL.ln
  have hk0n : k0 ≤ 64 := by have := al_wlen hL; omega
  have hk1n : k1 ≤ 64 := by have := al_olen hL hs.ok; omega
  have hk2n : k2 ≤ 600 := by have := al_llen hL; have := hEd.out.2.2; omega
  have k8 := hX.cs 0 (by omega)
  have k4 := hX.c4
  have zs := cell_lt k4
  simp only at zs
  have hz1 := hX.big
  have hrbl := hX.lt
  have key0 := hide (show ∀ w', Below w.heap.size w w' → (Below w.heap.size w w' ∧ w'.cell? ⟨rb, 8, none⟩ = some (.slice a0 k0 c0) ∧ w'.cell? ⟨rb, 4, none⟩ = some (.slice ha n hc) ∧ w.heap.size ≤ w'.heap.size) from fun w' hb => ⟨hb, cu_below hb k8 zs, cu_below hb k4 zs, hb.size⟩)
  have hos := hide (show ∀ i, i < 3 → ∀ j, ((sv3 (Value.slice a0 k0 c0) (.slice a1 k1 c1) (.slice a2 k2 c2)) i).ownBlock = some j → j < w.heap.size from fun i hi j hj => ((hX.os i hi).block_lt j hj).2)
  replace hX := hide hX
  replace hC := hide hC
  replace hs := hide hs
  replace ht := hide ht
  replace hk0 := hide hk0
  replace hk1 := hide hk1
  replace hk2 := hide hk2
  replace hr := hide hr
  have hvlh := hide hvl
  have iv : (0 : Int) ≤ (v : Int) ∧ (v : Int) < (n : Int) := by omega
  clear hL hv1 hv2 hne hnv hvw hvl hrt k8 k4
  go_enter Tryz.func39, Tryz.ntmps39
  go_upto_region 0 with fail
  refine wp_region_inv 12 (by kernel_rfl) [some 8, some 9, some 10, some 11, some 12, some 13, some 14, some 15, some 16, some 17, some 18, some 2] (FR0 rb (.slice a0 k0 c0) (.slice ha n hc) (v : Int) w.heap.size) (fun w' => Below w.heap.size w w' ∧ w'.cell? ⟨rb, 8, none⟩ = some (.slice a0 k0 c0) ∧ w'.cell? ⟨rb, 4, none⟩ = some (.slice ha n hc) ∧ w.heap.size ≤ w'.heap.size) (fun w w' => Below w.heap.size w w') (by kernel_rfl) (by kernel_rfl) (by kernel_rfl) (by kernel_rfl) (fr0_stays) (fun _ _ h => h.size) (key0.out _ (below_drew _)) ?steps ?hend
  case steps =>
    refine ⟨?_, ?_, ?_, ?_, ?_, ?_, ?_, ?_, ?_, ?_, ?_, ?_, trivial⟩
    · intro X L H wI hS hd K hK
      have hS0 := hide hS
      (try dsimp only at hS)
      simp only [putAll, Act.put, List.setIfInBounds_toArray, List.set_cons_zero, List.set_cons_succ]
      go_simp
      refine hK _ _ wI.heap.size wI.heap.size _ ?_ (Nat.le_refl _) (Nat.le_refl _) (Nat.le_refl _) (Below.refl _ _) hS0.out rfl
      simp only [putAll, Act.put, List.setIfInBounds_toArray, List.set_cons_zero, List.set_cons_succ]
    · intro X L H wI hS hd K hK
      have h0 : X 0 = _ := hd 0 (by kernel_rfl)
      have hS0 := hide hS
      (try dsimp only at hS)
      simp only [putAll, Act.put, List.setIfInBounds_toArray, List.set_cons_zero, List.set_cons_succ]
      go_simp
      refine hK _ _ wI.heap.size wI.heap.size _ ?_ (Nat.le_refl _) (Nat.le_refl _) (Nat.le_refl _) (Below.refl _ _) hS0.out rfl
      simp only [putAll, Act.put, List.setIfInBounds_toArray, List.set_cons_zero, List.set_cons_succ, h0]
    · intro X L H wI hS hd K hK
      have h1 : X 1 = _ := hd 1 (by kernel_rfl)
      have hS0 := hide hS
      (try dsimp only at hS)
      simp only [putAll, Act.put, List.setIfInBounds_toArray, List.set_cons_zero, List.set_cons_succ]
      go_simp
      refine hK _ _ wI.heap.size wI.heap.size _ ?_ (Nat.le_refl _) (Nat.le_refl _) (Nat.le_refl _) (Below.refl _ _) hS0.out rfl
      simp only [putAll, Act.put, List.setIfInBounds_toArray, List.set_cons_zero, List.set_cons_succ, h1]
    · intro X L H wI hS hd K hK
      have h2 : X 2 = _ := hd 2 (by kernel_rfl)
      have hS0 := hide hS
      (try dsimp only at hS)
      simp only [putAll, Act.put, List.setIfInBounds_toArray, List.set_cons_zero, List.set_cons_succ]
      go_simp
      refine hK _ _ wI.heap.size wI.heap.size _ ?_ (Nat.le_refl _) (Nat.le_refl _) (Nat.le_refl _) (Below.refl _ _) hS0.out rfl
      simp only [putAll, Act.put, List.setIfInBounds_toArray, List.set_cons_zero, List.set_cons_succ, h2]
    · intro X L H wI hS hd K hK
      have hS0 := hide hS
      (try dsimp only at hS)
      simp only [putAll, Act.put, List.setIfInBounds_toArray, List.set_cons_zero, List.set_cons_succ]
      go_simp
      refine hK _ _ wI.heap.size wI.heap.size _ ?_ (Nat.le_refl _) (Nat.le_refl _) (Nat.le_refl _) (Below.refl _ _) hS0.out rfl
      simp only [putAll, Act.put, List.setIfInBounds_toArray, List.set_cons_zero, List.set_cons_succ]
    · intro X L H wI hS hd K hK
      have h4 : X 4 = _ := hd 4 (by kernel_rfl)
      have hS0 := hide hS
      (try dsimp only at hS)
      simp only [putAll, Act.put, List.setIfInBounds_toArray, List.set_cons_zero, List.set_cons_succ]
      go_simp
      refine hK _ _ wI.heap.size wI.heap.size _ ?_ (Nat.le_refl _) (Nat.le_refl _) (Nat.le_refl _) (Below.refl _ _) hS0.out rfl
      simp only [putAll, Act.put, List.setIfInBounds_toArray, List.set_cons_zero, List.set_cons_succ, h4]
    · intro X L H wI hS hd K hK
      have hS0 := hide hS
      (try dsimp only at hS)
      simp only [putAll, Act.put, List.setIfInBounds_toArray, List.set_cons_zero, List.set_cons_succ]
      go_simp
      refine hK _ _ wI.heap.size wI.heap.size _ ?_ (Nat.le_refl _) (Nat.le_refl _) (Nat.le_refl _) (Below.refl _ _) hS0.out rfl
      simp only [putAll, Act.put, List.setIfInBounds_toArray, List.set_cons_zero, List.set_cons_succ]
    · intro X L H wI hS hd K hK
      have h6 : X 6 = _ := hd 6 (by kernel_rfl)
      have hS0 := hide hS
      (try dsimp only at hS)
      simp only [putAll, Act.put, List.setIfInBounds_toArray, List.set_cons_zero, List.set_cons_succ]
      go_simp
      refine hK _ _ wI.heap.size wI.heap.size _ ?_ (Nat.le_refl _) (Nat.le_refl _) (Nat.le_refl _) (Below.refl _ _) hS0.out rfl
      simp only [putAll, Act.put, List.setIfInBounds_toArray, List.set_cons_zero, List.set_cons_succ, h6]
    · intro X L H wI hS hd K hK
      have h7 : X 7 = _ := hd 7 (by kernel_rfl)
      have hS0 := hide hS
      (try dsimp only at hS)
      simp only [putAll, Act.put, List.setIfInBounds_toArray, List.set_cons_zero, List.set_cons_succ]
      go_simp
      refine hK _ _ wI.heap.size wI.heap.size _ ?_ (Nat.le_refl _) (Nat.le_refl _) (Nat.le_refl _) (Below.refl _ _) hS0.out rfl
      simp only [putAll, Act.put, List.setIfInBounds_toArray, List.set_cons_zero, List.set_cons_succ, h7]
    · intro X L H wI hS hd K hK
      have h8 : X 8 = _ := hd 8 (by kernel_rfl)
      have hS0 := hide hS
      (try dsimp only at hS)
      simp only [putAll, Act.put, List.setIfInBounds_toArray, List.set_cons_zero, List.set_cons_succ]
      go_simp
      refine hK _ _ wI.heap.size wI.heap.size _ ?_ (Nat.le_refl _) (Nat.le_refl _) (Nat.le_refl _) (Below.refl _ _) hS0.out rfl
      simp only [putAll, Act.put, List.setIfInBounds_toArray, List.set_cons_zero, List.set_cons_succ, h8]
    · intro X L H wI hS hd K hK
      (try have h3 : X 3 = _ := hd 3 (by kernel_rfl))
      (try have h5 : X 5 = _ := hd 5 (by kernel_rfl))
      (try have h9 : X 9 = _ := hd 9 (by kernel_rfl))
      have hS0 := hide hS
      (try dsimp only at hS)
      simp only [putAll, Act.put, List.setIfInBounds_toArray, List.set_cons_zero, List.set_cons_succ]
      (go_simp; go_at_call 52; refine (hFi.out _ hS0.out.1).mono ?_; rintro e wB ⟨rfl, hbB⟩; refine hK _ _ wI.heap.size wB.heap.size _ ?_ (Nat.le_refl _) hbB.size (Nat.le_refl _) hbB (key0.out _ (hS0.out.1.trans (hbB.mono hS0.out.2.2.2))) rfl; simp only [putAll, Act.put, List.setIfInBounds_toArray, List.set_cons_zero, List.set_cons_succ, h3, h5, h9])
    · intro X L H wI hS hd K hK
      have hS0 := hide hS
      (try dsimp only at hS)
      simp only [putAll, Act.put, List.setIfInBounds_toArray, List.set_cons_zero, List.set_cons_succ]
      (go_simp; refine hK _ (.pointer (some ⟨wI.heap.size, 0, none⟩)) wI.heap.size (wI.heap.size + 1) _ ?_ (Nat.le_refl _) (by omega) (by simp) ((Below.refl _ _).alloc (Nat.le_refl _) _) (key0.out _ (hS0.out.1.alloc hS0.out.2.2.2 _)) ⟨rfl, hS0.out.2.2.2, by omega, by simp [go_sem], by simp [go_sem]⟩; simp only [putAll, Act.put, List.setIfInBounds_toArray, List.set_cons_zero, List.set_cons_succ])
  case hend =>
    intro X L H wI hS hF hP
    (have f10 : X 10 = _ := (hF 10 (by omega)).1; obtain ⟨f11, b11, l11, n0, g0⟩ := (hF 11 (by omega)).1; have hbI := hS.1; clear hS hF hP; have zI := cell_lt n0; simp only at zI)
    simp only [putAll, Act.put, List.setIfInBounds_toArray, List.set_cons_zero, List.set_cons_succ, f10, f11]
    change wpAny _ _ _ _ (0 + 1) _ _ _
    refine wpAny_ready (rs := [12]) (by kernel_rfl) (by simp) (AllReady.cons rfl (fun K hK => ?_) AllReady.nil)
    go_simp
    refine hK _ _ ?_
    clear hK K
    refine wpAny_done (by kernel_rfl) ?_ _
    obtain ⟨bt, hbt⟩ : ∃ b, b = L 11 := ⟨_, rfl⟩
    simp only [← hbt] at b11 l11 n0 g0 zI ⊢
    obtain ⟨wA, hwA⟩ : ∃ wA, wA = wI.setCell ⟨bt, 0, none⟩ (.int .i64 (v : Int)) := ⟨_, rfl⟩
    have hbA : Below w.heap.size w wA := by rw [hwA]; exact hbI.setCell b11 _
    have xb : wA.cell? ⟨bt, 0, none⟩ = some (.int .i64 (v : Int)) := by rw [hwA]; simp [go_sem, n0]
    have hXA := hide (hX.out.stays hbA)
    have hzA : w.heap.size ≤ wA.heap.size := hbA.size
    simp only [← hwA]
    replace hwA := hide hwA
    replace hbt := hide hbt
    have hbtA : bt < wA.heap.size := cell_lt xb
    clear hX hFi key0 hbI hbA n0 g0 zI l11
    have o0 : Own encI 1 3 wA w1.heap.size (.slice a0 k0 c0) (LP (sl 0)) := hXA.out.os 0 (by omega)
    have hDel := hide (delIQ_any (v : Int) bt a0 c0 k0 w1.heap.size (LP (sl 0)) (by rw [lp_len]; exact hk0.out.symm) wA o0 (fun e => by have := hos.out 0 (by omega) bt e; omega) xb (by omega))
    have k8 : wA.cell? ⟨rb, 8 + 0, none⟩ = some (.slice a0 k0 c0) := hXA.out.cs 0 (by omega)
    rw [Nat.add_zero] at k8
    have f8 := hXA.out.fz 8
    have zr : rb < wA.heap.size := cell_lt k8
    have hb0t : (Value.slice a0 k0 c0).ownBlock ≠ some bt := fun e => by have := hos.out 0 (by omega) bt e; omega
    have hb0r : (Value.slice a0 k0 c0).ownBlock ≠ some rb := fun e => by have := (o0.block_lt _ e).1; omega
    clear o0
    go_wp2_with fail
    refine hDel.out.mono ?_
    rintro e w2 ⟨a3, c3, rfl, own3, kp3, hb3⟩
    rw [dels_lp] at own3 hb3 ⊢
    have k8 := kp3.cu k8 hb0r
    have f8 := (kp3.frozen (p := ⟨rb, 8, none⟩) zr hb0r).trans f8
    have xb := kp3.cu xb hb0t
    have hX3 := hide (hXA.out.set0 kp3 own3 (fun j hj => .inl (hb3 j hj)))
    obtain ⟨K3, hK3⟩ : ∃ K, K = (LP (List.filter (fun x => decide (x ≠ v)) (sl 0))).length := ⟨_, rfl⟩
    rw [← hK3] at hX3 hb3 own3 ⊢
    have hK3n : K3 ≤ 64 := by
      have h1 : K3 ≤ k0 := by rw [hK3, lp_len, hk0.out]; exact List.length_filter_le _ _
      omega
    have hK3' := hide (show K3 = (List.filter (fun x => decide (x ≠ v)) (sl 0)).length by rw [hK3, lp_len])
    replace hK3 := hide hK3
    have hb3t : (Value.slice a3 K3 c3).ownBlock ≠ some bt := fun e => hb0t (hb3 _ e)
    have z2 : rb < w2.heap.size := cell_lt k8
    have xb3 : (w2.setCell ⟨rb, 8, none⟩ (.slice a3 K3 c3)).cell? ⟨bt, 0, none⟩ = some (.int .i64 (v : Int)) := cu_set xb (show rb ≠ bt by omega)
    clear hXA own3 kp3 hb3 hDel hb0t hb0r
    go_upto_region 2 with fail
    generalize w2.setCell ⟨rb, 8, none⟩ (.slice a3 K3 c3) = w3 at hX3 xb3 ⊢
    clear k8 f8 xb z2
    have o1 : Own encI 1 3 w3 w1.heap.size (.slice a1 k1 c1) (LP (sl 1)) := hX3.out.os 1 (by omega)
    have k9 : w3.cell? ⟨rb, 8 + 1, none⟩ = some (.slice a1 k1 c1) := hX3.out.cs 1 (by omega)
    have f9 := hX3.out.fz 9
    have hb1t : (Value.slice a1 k1 c1).ownBlock ≠ some bt := fun e => by have := hos.out 1 (by omega) bt e; omega
    have hb1r : (Value.slice a1 k1 c1).ownBlock ≠ some rb := fun e => by have := (o1.block_lt _ e).1; omega
    have hl1 : (LP (sl 1)).length = k1 := by rw [lp_len]; exact hk1.out.symm
    have hKey := hide (show ∀ w', Keep (fun j => (Value.slice a1 k1 c1).ownBlock = some j) w3 w' → (w'.cell? ⟨rb, 9, none⟩ = some (.slice a1 k1 c1) ∧ w'.cell? ⟨bt, 0, none⟩ = some (.int .i64 (v : Int)) ∧ w'.frozen? ⟨rb, 9, none⟩ = false) from fun w' kp => ⟨kp.cu k9 hb1r, kp.cu xb3 hb1t, (kp.frozen (p := ⟨rb, 9, none⟩) (show rb < _ from cell_lt k9) hb1r).trans f9⟩)
    have hz3 := hX3.out.big
    have hla1 := hide (lp_app (sl 1) v)
    clear k9 f9 o1
    refine wp_region_end (S := (fun w' => w'.cell? ⟨rb, 9, none⟩ = some (.slice a1 k1 c1) ∧ w'.cell? ⟨bt, 0, none⟩ = some (.int .i64 (v : Int)) ∧ w'.frozen? ⟨rb, 9, none⟩ = false)) (t := 10) (by kernel_rfl) ?_ (fun hHeld hInv => ?_)
    · exact hKey.out _ (Keep.new (below_drew w3))
    replace hInv := hide hInv
    refine planE [0, 1, 2, 3, 4, 5] ?_
    iterate 6
      refine PlanE.take (v := ?_) (List.getElem?_toArray.trans rfl) (by kernel_rfl) (fun _ _ _ h => h) (Or.inl ⟨by rfl, ?_⟩) hInv.out (by assumption) (fun hInv' => ?_)
      rotate_left
      · intro w hSw; (try dsimp only at hSw); go_simp; (try with_reducible rfl)
      replace hInv := hide hInv'; clear hInv'; try simp only [Act.put, List.setIfInBounds_toArray, List.set_cons_zero, List.set_cons_succ]
    refine wpAnyE_one (i := 6) (List.getElem?_toArray.trans rfl) (by kernel_rfl) (fun K hK => ?_) hInv.out
    (go_simp)
    have hHeld := hKey.out _ (Keep.new (up_alloc (o := .cells #[.int .i64 (v : Int)] 3) (below_drew w3) (Nat.le_refl _)))
    refine hK.out _ _ (fun _ => hHeld) (fun hInv' => ?_)
    clear hK K; replace hInv := hide (hInv' (by decide)); clear hInv'; try simp only [Act.put, List.setIfInBounds_toArray, List.set_cons_zero, List.set_cons_succ]
    refine wpAnyE_one (i := 7) (List.getElem?_toArray.trans rfl) (by kernel_rfl) (fun K hK => ?_) hInv.out
    (refine step_pushLA (base := w1.heap.size) (e := 3) (enc := encI) (xs := LP (sl 1)) (v := .slice a1 k1 c1) rfl (.tmp 32) (.tmp 34) 22 rfl _ 8 Tryz.underlying22 info_int rfl ?p1 lenI oneI k1 hl1 rfl ((hX3.out.stays (up_alloc (o := .cells #[.int .i64 (v : Int)] 3) (below_drew w3) (Nat.le_refl _))).os 1 (by omega)) ⟨w3.heap.size, 0, none⟩ 1 (v : Int) rfl ?p2 ?p3 ?p4 ?p5 ?_; (case p1 => omega); (case p2 => exact newI w3 _ _ _ rfl); (case p3 => omega); (case p4 => unfold maxLen; omega); (case p5 => exact (hX3.out.stays (up_alloc (o := .cells #[.int .i64 (v : Int)] 3) (below_drew w3) (Nat.le_refl _))).big); intro g6 c6 w4 own6 hgr6 hat6 hlt6; have kp6 := Keep.grown (S := fun j => (Value.slice a1 k1 c1).ownBlock = some j) (Keep.refl _ (w3.drew.alloc (.cells #[.int .i64 (v : Int)] 3))) hgr6 (fun j hj => .inl hj))
    have hHeld := hKey.out _ ((Keep.new (up_alloc (o := .cells #[.int .i64 (v : Int)] 3) (below_drew w3) (Nat.le_refl _))).trans kp6)
    refine hK.out _ _ (fun _ => hHeld) (fun hInv' => ?_)
    clear hK K; replace hInv := hide (hInv' (by decide)); clear hInv'; try simp only [Act.put, List.setIfInBounds_toArray, List.set_cons_zero, List.set_cons_succ]
    refine planE [8, 9] ?_
    iterate 2
      refine PlanE.take (v := ?_) (List.getElem?_toArray.trans rfl) (by kernel_rfl) (fun _ _ _ h => h) (Or.inl ⟨by rfl, ?_⟩) hInv.out (by assumption) (fun hInv' => ?_)
      rotate_left
      · intro w hSw; (try dsimp only at hSw); go_simp; (try with_reducible rfl)
      replace hInv := hide hInv'; clear hInv'; try simp only [Act.put, List.setIfInBounds_toArray, List.set_cons_zero, List.set_cons_succ]
    refine wpAnyE_one (i := 10) (List.getElem?_toArray.trans rfl) (by kernel_rfl) (fun K hK => ?_) hInv.out
    (try dsimp only at hHeld); go_simp
    refine hK.out _ _ (fun h => absurd rfl h) (fun _ => ?_)
    clear hK K hInv; try simp only [Act.put, List.setIfInBounds_toArray, List.set_cons_zero, List.set_cons_succ]
    refine wpAnyE_done (by kernel_rfl) ?_ _
    rw [← hla1.out] at own6
    have hX5 := hide ((hX3.out.stays (up_alloc (o := .cells #[.int .i64 (v : Int)] 3) (below_drew w3) (Nat.le_refl _))).set1 kp6 own6 (fun j hj => by
      simp only [Value.ownBlock, Option.some.injEq] at hj
      subst hj
      exact hat6.imp id (fun e => Nat.le_of_eq e.symm)))
    have xb4 := (hKey.out _ ((Keep.new (up_alloc (o := .cells #[.int .i64 (v : Int)] 3) (below_drew w3) (Nat.le_refl _))).trans kp6)).2.1
    have xb5 : (w4.setCell ⟨rb, 9, none⟩ (.slice (some ⟨g6, 0, none⟩) (k1 + 1) c6)).cell? ⟨bt, 0, none⟩ = some (.int .i64 (v : Int)) := cu_set xb4 (show rb ≠ bt by omega)
    have hg6t : g6 ≠ bt := fun e => by
      subst e
      rcases hat6 with h1 | h1
      · exact hb1t h1
      · have := hbtA; have hw3 : g6 < w3.heap.size := cell_lt xb3; simp at h1; omega
    clear kp6 own6 hgr6 hlt6 hat6 hHeld hKey hX3 xb4
    generalize w4.setCell ⟨rb, 9, none⟩ (.slice (some ⟨g6, 0, none⟩) (k1 + 1) c6) = w5 at hX5 xb5 ⊢
    obtain ⟨D, hD⟩ : ∃ D, D = s.done := ⟨_, rfl⟩
    have k11 := hX5.out.c11
    rw [← hD] at k11 hdn hnm
    have f11 := hX5.out.fz 11
    have hwD : IntKind.i64.wrap ((D : Int) + 1) = (D : Int) + 1 := IntWalk.i64_in _ (by omega)
    have hX6 := (hX5.out.setS (D + 1)).re (alook s v) rfl rfl (by show s.done + 1 = D + 1; rw [hD]) rfl
    rw [show ((D + 1 : Nat) : Int) = (D : Int) + 1 by omega] at hX6
    replace hX6 := hide hX6
    have z5 : rb < w5.heap.size := cell_lt k11
    have xb6 : (w5.setCell ⟨rb, 11, none⟩ (.int .i64 ((D : Int) + 1))).cell? ⟨bt, 0, none⟩ = some (.int .i64 (v : Int)) := cu_set xb5 (show rb ≠ bt by omega)
    replace hD := hide hD
    clear hX5 xb5
    go_upto_region 4 with fail
    generalize w5.setCell ⟨rb, 11, none⟩ (.int .i64 ((D : Int) + 1)) = w6 at hX6 xb6 ⊢
    clear k11 f11 z5 hwD
    have c1' := hX6.out.c1
    have hb2t : (Value.slice a2 k2 c2).ownBlock ≠ some bt := fun e => by have := hos.out 2 (by omega) bt e; omega
    have hap0 := hide (show (Value.slice a3 K3 c3).ownBlock ≠ some bt ∧ (Value.slice a2 k2 c2).ownBlock ≠ some bt from ⟨hb3t, hb2t⟩)
    obtain ⟨s0, hs0⟩ : ∃ s0, s0 = alook s v := ⟨_, rfl⟩
    have hfs0 := hide (show (nes (es.take 0)).foldl (aedge h v) s0 = s0 by simp [nes])
    have hsm0 := hide (show s0.told = s.told ∧ s0.done = s.done + 1 ∧ s0.lk = upz s.lk v true by rw [hs0]; exact ⟨rfl, rfl, rfl⟩)
    have hll0 := hide (show k2 ≤ eB es s.lk + (nes (es.take 0)).countP (fun e => decide (e.u = v)) by rw [hk2.out]; exact Nat.le_trans hln.out (Nat.le_add_right _ _))
    have hX7 := hide (hX6.out.congr (sv' := sv3 (.slice a3 K3 c3) (.slice (some ⟨g6, 0, none⟩) (k1 + 1) c6) (.slice a2 k2 c2)) (sl' := sv3 ((sl 0).filter fun x => decide (x ≠ v)) (sl 1 ++ [v]) (sl 2)) (fun _ _ => rfl) (lt3 rfl rfl rfl))
    rw [← hs0] at hX7 hmd hlq
    replace hs0 := hide hs0
    clear hX6
    go_wp2
    go_loopw [51] (fun i wr => ∃ (j nm2 : Nat) (s2 : AS) (a4 : Option Addr) (k4 c4 : Nat) (a5 : Option Addr) (k5 c5 : Nat) (wl2 ll2 : List Nat), j ≤ el ∧ i = .int .i64 (j : Int) ∧ Hid (RXf n rb mb pb nm2 (.slice ae el ec) (.slice ha n hc) (.slice aw m wk) fr (tgN : Int) (sv3 (.slice a4 k4 c4) (.slice (some ⟨g6, 0, none⟩) (k1 + 1) c6) (.slice a5 k5 c5)) (sv3 wl2 (sl 1 ++ [v]) ll2) (.slice ar t rc) ros s2 w1 wr) ∧ Hid (ALq n s2 wl2 (sl 1 ++ [v]) ll2) ∧ Hid (k4 = wl2.length) ∧ Hid (k5 = ll2.length) ∧ Hid (AMd n h v s2) ∧ Hid ((nes (es.take j)).foldl (aedge h v) s0 = s2) ∧ Hid (s2.told = s.told ∧ s2.done = s.done + 1 ∧ s2.lk = upz s.lk v true) ∧ Hid (k5 ≤ eB es s.lk + (nes (es.take j)).countP (fun e => decide (e.u = v))) ∧ nm2 ≤ nm + j ∧ wr.cell? ⟨bt, 0, none⟩ = some (.int .i64 (v : Int)) ∧ Hid ((Value.slice a4 k4 c4).ownBlock ≠ some bt ∧ (Value.slice a5 k5 c5).ownBlock ≠ some bt)) (fun i _ => el - (intOf i).toNat)
    case atStart => exact ⟨0, nm, s0, a3, K3, c3, a2, k2, c2, _, _, Nat.zero_le _, rfl, hX7, hlq, hK3', hk2, hmd, hfs0, hsm0, hll0, by omega, xb6, hap0⟩
    case round =>
      clear hX7 hlq hmd hfs0 hsm0 hll0 xb6 hap0 c1' hb2t hb3t
      obtain ⟨j, nm2, s2, a4, k4, c4, a5, k5, c5, wl2, ll2, hj, rfl, hX, hq, hk4, hk5, hmd, hfs, hsm, hll, hnm2, xb, hap⟩ := hrel
      have heln : el ≤ 600 := hEd.out.2.2.2
      by_cases hlt : j < el
      · have hjl : j < es.length := by have := hEd.out.2.2.1; omega
        obtain ⟨u2, vv, e1', e2', e3, e4, e5, e6, hnt⟩ := right_edge hEd.out.1 j hjl
        have e7 := hEd.out.2.1 es[j] (List.getElem_mem hjl)
        obtain ⟨b, o, rfl, hbB, m1, m2, m3⟩ := (hE.out _ hX.out.keep).ed j hjl
        rw [e1'] at m1
        rw [e2'] at m2
        obtain ⟨ee, hee⟩ : ∃ ee, ee = es[j].c := ⟨_, rfl⟩
        rw [← hee] at m3 e5 e6 e7 hnt
        have hfs2 := hfs.out
        have hfn : (nes (es.take (j + 1))).foldl (aedge h v) s0 = aedge h v s2 ⟨u2, vv, ee⟩ := by rw [hnt, List.foldl_append, hfs2]; rfl
        have hcn : (nes (es.take (j + 1))).countP (fun e => decide (e.u = v)) = (nes (es.take j)).countP (fun e => decide (e.u = v)) + if u2 = v then 1 else 0 := by
          rw [hnt, List.countP_append, List.countP_singleton]
          by_cases h0 : u2 = v <;> simp [h0]
        have hll2 := hll.out
        have hk5n : k5 ≤ 1200 := by
          have h1 := eb_le es s.lk
          have h2 := List.countP_le_length (p := fun e : NE => decide (e.u = v)) (l := nes (es.take j))
          have h3 : (nes (es.take j)).length ≤ es.length := by simp [nes]; omega
          have := hEd.out.2.2
          omega
        have hk4n : k4 ≤ 64 := by have := nodup_shortS n wl2 hq.out.nd (fun z hz => ((hq.out.iw z).1 hz).1); have := hk4.out; omega
        have hwr := hX.out.big
        have hrl := hX.out.lt
        have hrn := hX.out.ne
        have c1' := hX.out.c1
        have hbr : b < wr.heap.size := by omega
        have ij : (0 : Int) ≤ (j : Int) ∧ (j : Int) < (el : Int) := by omega
        have hcv := hmd.out.cv
        have hsd := hsm.out.2.1
        rw [hsd, ← hD.out] at hcv
        push_cast at hcv
        obtain ⟨x2, hx2⟩ : ∃ x2, x2 = s2.cost v := ⟨_, rfl⟩
        rw [← hx2] at hcv
        obtain ⟨hg1, hgo, hhe, hgb, g0⟩ := (row_keep hC.out.hr hX.out.keep hC.out.hx).atI vv e4
        obtain ⟨y, hy⟩ : ∃ y, y = h vv := ⟨_, rfl⟩
        rw [← hy] at g0
        have k4' := hX.out.c4
        rw [hhe] at k4'
        replace hx2 := hide hx2
        replace hy := hide hy
        replace hee := hide hee
        replace hsd := hide hsd
        replace e1' := hide e1'
        replace e2' := hide e2'
        replace hnt := hide hnt
        replace hfn := hide hfn
        replace hcn := hide hcn
        replace hhe := hide hhe
        replace hll2 := hide hll2
        replace hfs2 := hide hfs2
        obtain ⟨be, hbe⟩ : ∃ be, be = wr.heap.size := ⟨_, rfl⟩
        obtain ⟨w8, hw8⟩ : ∃ w8, w8 = wr.alloc (.cells #[.int .i64 (u2 : Int), .int .i64 (vv : Int), .int .i64 ee] 111) := ⟨_, rfl⟩
        have hb8 : Below wr.heap.size wr w8 := by rw [hw8]; exact up_alloc (Below.refl _ _) (Nat.le_refl _)
        have n0 : w8.cell? ⟨be, 0, none⟩ = some (.int .i64 (u2 : Int)) := by rw [hw8, hbe]; simp [go_sem]
        have n1 : w8.cell? ⟨be, 1, none⟩ = some (.int .i64 (vv : Int)) := by rw [hw8, hbe]; simp [go_sem]
        have n2 : w8.cell? ⟨be, 2, none⟩ = some (.int .i64 ee) := by rw [hw8, hbe]; simp [go_sem]
        have hX8 := hide (hX.out.stays hb8)
        have xb8 := cu_below hb8 xb (cell_lt xb)
        have k4' := cu_below hb8 k4' (show rb < _ by omega)
        have g0 := cu_below hb8 g0 (show hg1 < _ by omega)
        have zb8 : be < w8.heap.size := cell_lt n0
        have zr8 : rb < w8.heap.size := by omega
        have zg8 : hg1 < w8.heap.size := by have := hb8.size; omega
        have zt8 : bt < w8.heap.size := cell_lt xb8
        have hbw1 : w1.heap.size ≤ be := by omega
        have hben : be ≠ bt := by have := cell_lt xb; simp only at this; omega
        have hbeP := hide (show ∀ i, i < 3 → ∀ z, z = be → ((sv3 (Value.slice a4 k4 c4) (.slice (some ⟨g6, 0, none⟩) (k1 + 1) c6) (.slice a5 k5 c5)) i).ownBlock ≠ some z from fun i hi z hz e => by have := ((hX.out.os i hi).block_lt _ e).2; omega)
        go_upto_region 7 with fail
        simp only [← hw8, ← hbe]
        replace hw8 := hide hw8
        replace hbe := hide hbe
        replace hb8 := hide hb8
        clear hX xb m1 m2 m3 c1' hfs hll
        by_cases huv : u2 = v ∧ y ≠ 1099511627776
        · obtain ⟨h0, hyF⟩ := huv
          have q1 : ((u2 : Int) != (v : Int)) = false := by simp [h0]
          have q2 : (y == 1099511627776) = false := by simpa using hyF
          have hcF : x2 + ee < FAR := by unfold FAR; omega
          obtain ⟨ok, hok⟩ : ∃ ok, (costM n s2.cost (vv : Int)).isSome = ok := ⟨_, rfl⟩
          obtain ⟨old, hold⟩ : ∃ g, (costM n s2.cost (vv : Int)).getD 0 = g := ⟨_, rfl⟩
          have hcond := hide (show (ok = false ∨ x2 + ee < old) ↔ x2 + ee < s2.cost vv from by
            rcases costM_look (cost := s2.cost) e4 with ⟨g1, g2⟩ | ⟨g1, g2⟩
            · rw [← hok, ← hold, g1]
              constructor
              · rintro (h1 | h1)
                · cases h1
                · exact h1
              · exact fun h1 => .inr h1
            · rw [← hok, g1]
              constructor
              · intro _; omega
              · exact fun _ => .inl rfl)
          have hcx : s2.cost v < FAR := by rw [← hx2.out]; unfold FAR; omega
          go_wp2
          (refine wp_region_quiet_hid (by kernel_rfl) (by kernel_rfl) (fun wq hst hni => ?_); (repeat (refine hst.out _ _ _ _ (fun K hK => ?_); go_simp; first | (refine hK.out _ ?_; clear hK K) | (apply Exists.intro; refine ⟨fun _ => ?_, hK.out _ ?_⟩; (fail); clear hK K))); refine hni.out _ _ ?_; clear hst hni wq; intro wqq hw'; obtain ⟨nq, hw''⟩ := hw'; subst hw'')
          have hX9 := hide (hX8.out.stays ((up_drewN (n := nq) (Below.refl w8.heap.size w8)) : Below w8.heap.size w8 (w8.drewN nq)))
          have n1 : (w8.drewN nq).cell? ⟨be, 1, none⟩ = some (.int .i64 (vv : Int)) := cu_drewN n1
          have n2 : (w8.drewN nq).cell? ⟨be, 2, none⟩ = some (.int .i64 ee) := cu_drewN n2
          have xb9 : (w8.drewN nq).cell? ⟨bt, 0, none⟩ = some (.int .i64 (v : Int)) := cu_drewN xb8
          clear hX8 xb8 n0 k4' g0 zb8 zr8 zg8 zt8
          generalize w8.drewN nq = w9 at hX9 n1 n2 xb9 ⊢
          have hlk := fun k => ((hX9.out.cm.drewN k).lookOk 86 Tryz.underlying86 (x := (vv : Int)) (by unfold Bd; omega))
          rw [hok, hold] at hlk
          have hlk2 := fun k => ((hX9.out.cm.drewN k).look 86 Tryz.underlying86 (x := (v : Int)) (by unfold Bd; omega))
          rw [costM_at hvn hcx] at hlk2
          simp only [Option.getD_some] at hlk2
          rw [← hx2.out] at hlk2
          have k6 := hX9.out.c6
          have zr9 : rb < w9.heap.size := cell_lt k6
          have ze9 : be < w9.heap.size := cell_lt n1
          have zt9 : bt < w9.heap.size := cell_lt xb9
          have hwp : IntKind.i64.wrap (x2 + ee) = x2 + ee := IntWalk.i64_in _ (by omega)
          replace hok := hide hok
          replace hold := hide hold
          have hyFh := hide hyF
          have h0h := hide h0
          clear hcx hyF h0
          go_wp2
          (refine wp_region_quiet_hid (by kernel_rfl) (by kernel_rfl) (fun wq hst hni => ?_); (repeat (refine hst.out _ _ _ _ (fun K hK => ?_); go_simp; first | (refine hK.out _ ?_; clear hK K) | (apply Exists.intro; refine ⟨fun _ => ?_, hK.out _ ?_⟩; (fail); clear hK K))); refine hni.out _ _ ?_; clear hst hni wq; intro wqq hw'; obtain ⟨nq, hw''⟩ := hw'; subst hw'')
          obtain ⟨nqa, rfl⟩ : ∃ k, k = nq := ⟨_, rfl⟩
          go_wp2
          (refine wp_region_quiet_hid (by kernel_rfl) (by kernel_rfl) (fun wq hst hni => ?_); (repeat (refine hst.out _ _ _ _ (fun K hK => ?_); go_simp; first | (refine hK.out _ ?_; clear hK K) | (apply Exists.intro; refine ⟨fun _ => ?_, hK.out _ ?_⟩; (fail); clear hK K))); refine hni.out _ _ ?_; clear hst hni wq; intro wqq hw'; obtain ⟨nq, hw''⟩ := hw'; subst hw'')
          have hX10 := hide (hX9.out.stays (up_drewN (n := nq) (up_drewN (n := nqa) (Below.refl w9.heap.size w9)) : Below w9.heap.size w9 ((w9.drewN nqa).drewN nq)))
          have n1 : ((w9.drewN nqa).drewN nq).cell? ⟨be, 1, none⟩ = some (.int .i64 (vv : Int)) := cu_drewN (cu_drewN n1)
          have xb10 : ((w9.drewN nqa).drewN nq).cell? ⟨bt, 0, none⟩ = some (.int .i64 (v : Int)) := cu_drewN (cu_drewN xb9)
          clear hX9 hlk hlk2 k6 zr9 ze9 zt9 xb9 n2 hwp
          generalize (w9.drewN nqa).drewN nq = w10 at hX10 n1 xb10 ⊢
          go_upto_region 10 with fail
          obtain ⟨q, hqd⟩ : ∃ q, q = decide (x2 + ee < s2.cost vv) := ⟨_, rfl⟩
          have hcq := hide (show (ok = false ∨ x2 + ee < old) ↔ q = true from by rw [hqd]; simpa using hcond.out)
          replace hqd := hide hqd
          go_cut [95] (fun s95 wx => s95 = .bool q ∧ wx = w10)
          case first =>
            cases ok with
            | false =>
              have hq1 : q = true := hcq.out.1 (.inl rfl)
              subst hq1
              go_wp2
              go_meet
              case rel => exact ⟨rfl, rfl⟩
            | true =>
              by_cases hlo : x2 + ee < old
              · have hq1 : q = true := hcq.out.1 (.inr hlo)
                subst hq1
                go_wp2
                go_meet
                case rel => exact ⟨by simp [hlo], rfl⟩
              · have hq1 : q = false := by
                  cases q with
                  | false => rfl
                  | true => rcases hcq.out.2 rfl with h1 | h1; cases h1; exact absurd h1 hlo
                subst hq1
                go_wp2
                go_meet
                case rel => exact ⟨by simp [hlo], rfl⟩
          case rest =>
            obtain ⟨rfl, hwc⟩ := hcut
            obtain rfl : w10 = wc := hwc.symm
            have hqd2 := hqd.out
            cases q with
            | false =>
              have hnl : ¬ x2 + ee < s2.cost vv := by simpa using hqd2.symm
              have hae : aedge h v s2 ⟨u2, vv, ee⟩ = s2 := aedge_no (fun hc => hnl (by rw [hx2.out]; exact hc.2.2))
              have hfin := hide (show (nes (es.take (j + 1))).foldl (aedge h v) s0 = s2 by rw [hfn.out, hae])
              have hllf := hide (show k5 ≤ eB es s.lk + (nes (es.take (j + 1))).countP (fun e => decide (e.u = v)) by rw [hcn.out]; have := hll2.out; omega)
              clear hae hnl hqd2
              go_wp2
              go_roundw
              case rel => exact ⟨j + 1, nm2, s2, a4, k4, c4, a5, k5, c5, wl2, ll2, by omega, by go_num, hX10, hq, hk4, hk5, hmd, hfin, hsm, hllf, by omega, xb10, hap⟩
              case measure => simp [intOf]; omega
            | true =>
              have hless : x2 + ee < s2.cost vv := by simpa using hqd2.symm
              have hae : aedge h v s2 ⟨u2, vv, ee⟩ = { s2 with cost := upz s2.cost vv (x2 + ee), pred := upz s2.pred vv (v : Int), wt := if s2.lk vv = true then s2.wt else upz s2.wt vv true, la := if s2.lk vv = true then upz s2.la vv true else s2.la } := by
                rw [hx2.out]
                exact aedge_yes (e := ⟨u2, vv, ee⟩) h0h.out (fun e => hyFh.out (by rw [hy.out]; exact e)) (by rw [← hx2.out]; exact hless)
              have hmd2 := hide (amd_edge hmd.out hvn (e := ⟨u2, vv, ee⟩) (by simp only; omega) (by rw [hsd.out, ← hD.out]; omega))
              have hsm2 := hide (show (aedge h v s2 ⟨u2, vv, ee⟩).told = s.told ∧ (aedge h v s2 ⟨u2, vv, ee⟩).done = s.done + 1 ∧ (aedge h v s2 ⟨u2, vv, ee⟩).lk = upz s.lk v true by rw [aedge_same.1, aedge_same.2.1, aedge_same.2.2]; exact hsm.out)
              have hcn2 := hide (show (nes (es.take (j + 1))).countP (fun e => decide (e.u = v)) = (nes (es.take j)).countP (fun e => decide (e.u = v)) + 1 by rw [hcn.out, if_pos h0h.out])
              obtain ⟨s3, hs3⟩ : ∃ s3, s3 = aedge h v s2 ⟨u2, vv, ee⟩ := ⟨_, rfl⟩
              rw [← hs3] at hmd2 hsm2 hfn hae
              have hqL := hide (fun (hu : vv ∈ sl 1 ++ [v]) => (show ALq n s3 wl2 (sl 1 ++ [v]) (ll2 ++ [vv]) by rw [hae]; exact alq_late hq.out hu _ _))
              have hqO := hide (fun (hu : vv ∉ sl 1 ++ [v]) (hw : vv ∈ wl2) => (show ALq n s3 wl2 (sl 1 ++ [v]) ll2 by rw [hae]; exact alq_old hq.out hu hw _ _))
              have hqN := hide (fun (hu : vv ∉ sl 1 ++ [v]) (hw : vv ∉ wl2) => (show ALq n s3 (wl2 ++ [vv]) (sl 1 ++ [v]) ll2 by rw [hae]; exact alq_new hq.out e4 hu hw _ _))
              have hre := hide (show s3.cost = upz s2.cost vv (x2 + ee) ∧ s3.pred = upz s2.pred vv (v : Int) ∧ s3.done = s2.done ∧ s3.told = s2.told by rw [hae]; exact ⟨rfl, rfl, rfl, rfl⟩)
              replace hs3 := hide hs3
              have hTd := hide (hX10.out.stays (below_drew w10))
              have hmp : mb ≠ pb := hrn.2.2
              obtain ⟨va, sta, wA1, wA, runA1, runA, imA, gA, gA1⟩ := hTd.out.cm.entry 86 Tryz.underlying86 (by omega) (x := (vv : Int)) (y := x2 + ee) (by unfold Bd; omega) (by unfold Bd; omega)
              obtain ⟨vb2, stb, wB1, wB, runB1, runB, imB, gB, gB1⟩ := (hTd.out.pm.kept gA (fun e => hmp (Option.some.inj e).symm)).entry 86 Tryz.underlying86 (by omega) (x := (vv : Int)) (y := (v : Int)) (by unfold Bd; omega) (by unfold Bd; omega)
              have hbm : be ≠ mb ∧ be ≠ pb := by omega
              have htm : bt ≠ mb ∧ bt ≠ pb := by omega
              have hSk := hide (show ∀ w', Keep (fun j => j = mb ∨ j = pb) w10.drew w' → (w'.cell? ⟨rb, 6, none⟩ = some (.map (some mb)) ∧ w'.cell? ⟨rb, 7, none⟩ = some (.map (some pb)) ∧ w'.cell? ⟨be, 1, none⟩ = some (.int .i64 (vv : Int)) ∧ w'.cell? ⟨bt, 0, none⟩ = some (.int .i64 (v : Int))) from fun w' kp => ⟨kp.cu (cu_drew hX10.out.c6) (by simp; omega), kp.cu (cu_drew hX10.out.c7) (by simp; omega), kp.cu (cu_drew n1) (by simp; omega), kp.cu (cu_drew xb10) (by simp; omega)⟩)
              have kpA := (Keep.refl (fun j => j = mb ∨ j = pb) w10.drew).grown gA (fun z hz => by cases hz; exact .inl (.inl rfl))
              have kpA1 := hide ((Keep.refl (fun j => j = mb ∨ j = pb) w10.drew).grown gA1 (fun z hz => by cases hz; exact .inl (.inl rfl)))
              have kpB1 := hide (kpA.grown gB1 (fun z hz => by cases hz; exact .inl (.inr rfl)))
              replace kpA := hide kpA
              rw [costM_set e4 hcF] at imA
              rw [predM_set e4] at imB
              have kpB := ((Keep.refl (fun j => j = mb ∨ j = pb) w10.drew).grown gA (fun z hz => by cases hz; exact .inl (.inl rfl))).grown gB (fun z hz => by cases hz; exact .inl (.inr rfl))
              have hXB0 := hide (hTd.out.setM _ _ kpB (imA.kept gB (fun e => hmp (Option.some.inj e))) imB)
              have xbB0 := kpB.cu (cu_drew xb10) (by simp; omega)
              have e1B := kpB.cu (cu_drew n1) (by simp; omega)
              clear hTd imA imB kpB gA gB gA1 gB1 hqd2 hless hae
              go_wp2
              refine wp_region_end (S := (fun w' => w'.cell? ⟨rb, 6, none⟩ = some (.map (some mb)) ∧ w'.cell? ⟨rb, 7, none⟩ = some (.map (some pb)) ∧ w'.cell? ⟨be, 1, none⟩ = some (.int .i64 (vv : Int)) ∧ w'.cell? ⟨bt, 0, none⟩ = some (.int .i64 (v : Int)))) (t := 19) (by kernel_rfl) ?_ (fun hHeld hInv => ?_)
              · exact hSk.out _ (Keep.refl _ _)
              replace hInv := hide hInv
              refine planE [0, 1, 2, 3, 4, 5, 6, 7, 8, 9, 10, 11, 12, 13] ?_
              iterate 14
                refine PlanE.take (v := ?_) (List.getElem?_toArray.trans rfl) (by kernel_rfl) (fun _ _ _ h => h) (Or.inl ⟨by rfl, ?_⟩) hInv.out (by assumption) (fun hInv' => ?_)
                rotate_left
                · intro w hSw; (try dsimp only at hSw); go_simp; (try with_reducible rfl)
                replace hInv := hide hInv'; clear hInv'; try simp only [Act.put, List.setIfInBounds_toArray, List.set_cons_zero, List.set_cons_succ]
              refine wpAnyE_one (i := 14) (List.getElem?_toArray.trans rfl) (by kernel_rfl) (fun K hK => ?_) hInv.out
              (go_simp)
              have hHeld := hSk.out _ kpA1.out
              refine hK.out _ _ (fun _ => hHeld) (fun hInv' => ?_)
              clear hK K; replace hInv := hide (hInv' (by decide)); clear hInv'; try simp only [Act.put, List.setIfInBounds_toArray, List.set_cons_zero, List.set_cons_succ]
              refine planE [15] ?_
              iterate 1
                refine PlanE.take (v := ?_) (List.getElem?_toArray.trans rfl) (by kernel_rfl) (fun _ _ _ h => h) (Or.inl ⟨by rfl, ?_⟩) hInv.out (by assumption) (fun hInv' => ?_)
                rotate_left
                · intro w hSw; (try dsimp only at hSw); go_simp; (try with_reducible rfl)
                replace hInv := hide hInv'; clear hInv'; try simp only [Act.put, List.setIfInBounds_toArray, List.set_cons_zero, List.set_cons_succ]
              refine wpAnyE_one (i := 16) (List.getElem?_toArray.trans rfl) (by kernel_rfl) (fun K hK => ?_) hInv.out
              (go_simp)
              have hHeld := hSk.out _ kpA.out
              refine hK.out _ _ (fun _ => hHeld) (fun hInv' => ?_)
              clear hK K; replace hInv := hide (hInv' (by decide)); clear hInv'; try simp only [Act.put, List.setIfInBounds_toArray, List.set_cons_zero, List.set_cons_succ]
              refine wpAnyE_one (i := 17) (List.getElem?_toArray.trans rfl) (by kernel_rfl) (fun K hK => ?_) hInv.out
              (go_simp)
              have hHeld := hSk.out _ kpB1.out
              refine hK.out _ _ (fun _ => hHeld) (fun hInv' => ?_)
              clear hK K; replace hInv := hide (hInv' (by decide)); clear hInv'; try simp only [Act.put, List.setIfInBounds_toArray, List.set_cons_zero, List.set_cons_succ]
              refine planE [18] ?_
              iterate 1
                refine PlanE.take (v := ?_) (List.getElem?_toArray.trans rfl) (by kernel_rfl) (fun _ _ _ h => h) (Or.inl ⟨by rfl, ?_⟩) hInv.out (by assumption) (fun hInv' => ?_)
                rotate_left
                · intro w hSw; (try dsimp only at hSw); go_simp; (try with_reducible rfl)
                replace hInv := hide hInv'; clear hInv'; try simp only [Act.put, List.setIfInBounds_toArray, List.set_cons_zero, List.set_cons_succ]
              refine wpAnyE_one (i := 19) (List.getElem?_toArray.trans rfl) (by kernel_rfl) (fun K hK => ?_) hInv.out
              (try dsimp only at hHeld); go_simp
              refine hK.out _ _ (fun h => absurd rfl h) (fun _ => ?_)
              clear hK K hInv; try simp only [Act.put, List.setIfInBounds_toArray, List.set_cons_zero, List.set_cons_succ]
              refine wpAnyE_done (by kernel_rfl) ?_ _
              clear runA1 runB1 runA runB kpA kpA1 kpB1 hSk hHeld
              have hXB1 := hide (hXB0.out.re s3 hre.out.1 hre.out.2.1 hre.out.2.2.1 hre.out.2.2.2)
              have hl61 : (LP (sl 1 ++ [v])).length = k1 + 1 := by rw [lp_len, List.length_append, ← hk1.out]; rfl
              have hcc := hide (fun k => contI_any (vv : Int) (some ⟨g6, 0, none⟩) c6 (k1 + 1) (LP (sl 1 ++ [v])) (wB.drewN k) (wB.drewN k).heap.size hl61 (own_rowL ((hXB1.out.stays (up_drewN (n := k) (Below.refl wB.heap.size wB))).os 1 (by omega))) (by omega))
              have zrB : rb < wB.heap.size := by have := hXB1.out.big; omega
              have zeB : be < wB.heap.size := cell_lt e1B
              have k9B : wB.cell? ⟨rb, 9, none⟩ = some (.slice (some ⟨g6, 0, none⟩) (k1 + 1) c6) := hXB1.out.cs 1 (by omega)
              have k8B : wB.cell? ⟨rb, 8, none⟩ = some (.slice a4 k4 c4) := hXB1.out.cs 0 (by omega)
              clear hXB0 hre hl61
              by_cases hin : vv ∈ sl 1 ++ [v]
              · have hdq : decide ((vv : Int) ∈ LP (sl 1 ++ [v])) = true := by simpa using lp_mem.2 hin
                simp only [hdq] at hcc
                have hqF := hide (hqL.out hin)
                have hk55 := hide (show k5 + 1 = (ll2 ++ [vv]).length by rw [List.length_append, hk5.out]; rfl)
                have hllf := hide (show k5 + 1 ≤ eB es s.lk + (nes (es.take (j + 1))).countP (fun e => decide (e.u = v)) by rw [hcn2.out]; have := hll2.out; omega)
                have hPT := hap.out.2
                clear hqL hqO hqN hin hdq
                go_wp2
                (refine wp_region_quiet_hid (by kernel_rfl) (by kernel_rfl) (fun wq hst hni => ?_); (repeat (refine hst.out _ _ _ _ (fun K hK => ?_); go_simp; first | (refine hK.out _ ?_; clear hK K) | (apply Exists.intro; refine ⟨fun _ => ?_, hK.out _ ?_⟩; (go_at_call 56; exact Calls.quiet_of_same (hcc.out _)); clear hK K))); refine hni.out _ _ ?_; clear hst hni wq; intro wqq hw'; obtain ⟨nq, hw''⟩ := hw'; subst hw'')
                have hXB := hide (hXB1.out.stays (up_drewN (n := nq) (Below.refl wB.heap.size wB)))
                have e1 : (wB.drewN nq).cell? ⟨be, 1, none⟩ = some (.int .i64 (vv : Int)) := cu_drewN e1B
                have xbB : (wB.drewN nq).cell? ⟨bt, 0, none⟩ = some (.int .i64 (v : Int)) := cu_drewN xbB0
                clear hXB1 e1B xbB0 hcc zrB zeB k9B k8B
                generalize wB.drewN nq = w11 at hXB e1 xbB ⊢
                have oP : Own encI 1 3 w11 w1.heap.size (.slice a5 k5 c5) (LP ll2) := hXB.out.os 2 (by omega)
                have kP : w11.cell? ⟨rb, 8 + 2, none⟩ = some (.slice a5 k5 c5) := hXB.out.cs 2 (by omega)
                have fP := hXB.out.fz 10
                have hPr : (Value.slice a5 k5 c5).ownBlock ≠ some rb := fun e => by have := (oP.block_lt _ e).1; omega
                have hPe : (Value.slice a5 k5 c5).ownBlock ≠ some be := hbeP.out 2 (by omega) be rfl
                have hlP : (LP ll2).length = k5 := by rw [lp_len]; exact hk5.out.symm
                have hKey := hide (show ∀ w', Keep (fun j => (Value.slice a5 k5 c5).ownBlock = some j) w11 w' → (w'.cell? ⟨rb, 10, none⟩ = some (.slice a5 k5 c5) ∧ w'.cell? ⟨be, 1, none⟩ = some (.int .i64 (vv : Int)) ∧ w'.frozen? ⟨rb, 10, none⟩ = false) from fun w' kp => ⟨kp.cu kP hPr, kp.cu e1 hPe, (kp.frozen (p := ⟨rb, 10, none⟩) (show rb < _ from cell_lt kP) hPr).trans fP⟩)
                have hlaP := hide (lp_app ll2 vv)
                have hPb := hide (fun j hj => (oP.block_lt j hj).2)
                clear kP fP oP
                go_wp2
                refine wp_region_end (S := (fun w' => w'.cell? ⟨rb, 10, none⟩ = some (.slice a5 k5 c5) ∧ w'.cell? ⟨be, 1, none⟩ = some (.int .i64 (vv : Int)) ∧ w'.frozen? ⟨rb, 10, none⟩ = false)) (t := 11) (by kernel_rfl) ?_ (fun hHeld hInv => ?_)
                · exact hKey.out _ (Keep.new (below_drew w11))
                replace hInv := hide hInv
                refine planE [0, 1, 2, 3, 4, 5, 6] ?_
                iterate 7
                  refine PlanE.take (v := ?_) (List.getElem?_toArray.trans rfl) (by kernel_rfl) (fun _ _ _ h => h) (Or.inl ⟨by rfl, ?_⟩) hInv.out (by assumption) (fun hInv' => ?_)
                  rotate_left
                  · intro w hSw; (try dsimp only at hSw); go_simp; (try with_reducible rfl)
                  replace hInv := hide hInv'; clear hInv'; try simp only [Act.put, List.setIfInBounds_toArray, List.set_cons_zero, List.set_cons_succ]
                refine wpAnyE_one (i := 7) (List.getElem?_toArray.trans rfl) (by kernel_rfl) (fun K hK => ?_) hInv.out
                (go_simp)
                have hHeld := hKey.out _ (Keep.new (up_alloc (o := .cells #[.int .i64 (vv : Int)] 3) (below_drew w11) (Nat.le_refl _)))
                refine hK.out _ _ (fun _ => hHeld) (fun hInv' => ?_)
                clear hK K; replace hInv := hide (hInv' (by decide)); clear hInv'; try simp only [Act.put, List.setIfInBounds_toArray, List.set_cons_zero, List.set_cons_succ]
                refine wpAnyE_one (i := 8) (List.getElem?_toArray.trans rfl) (by kernel_rfl) (fun K hK => ?_) hInv.out
                (refine step_pushLA (base := w1.heap.size) (e := 3) (enc := encI) (xs := LP ll2) (v := .slice a5 k5 c5) rfl (.tmp 125) (.tmp 128) 22 rfl _ 8 Tryz.underlying22 info_int rfl ?p1 lenI oneI k5 hlP rfl ((hXB.out.stays (up_alloc (o := .cells #[.int .i64 (vv : Int)] 3) (below_drew w11) (Nat.le_refl _))).os 2 (by omega)) ⟨w11.heap.size, 0, none⟩ 1 (vv : Int) rfl ?p2 ?p3 ?p4 ?p5 ?_; (case p1 => omega); (case p2 => exact newI w11 _ _ _ rfl); (case p3 => omega); (case p4 => unfold maxLen; omega); (case p5 => exact (hXB.out.stays (up_alloc (o := .cells #[.int .i64 (vv : Int)] 3) (below_drew w11) (Nat.le_refl _))).big); intro g8 c8 w12 own8 hgr8 hat8 hlt8; have kp8 := Keep.grown (S := fun j => (Value.slice a5 k5 c5).ownBlock = some j) (Keep.refl _ (w11.drew.alloc (.cells #[.int .i64 (vv : Int)] 3))) hgr8 (fun j hj => .inl hj))
                have hHeld := hKey.out _ ((Keep.new (up_alloc (o := .cells #[.int .i64 (vv : Int)] 3) (below_drew w11) (Nat.le_refl _))).trans kp8)
                refine hK.out _ _ (fun _ => hHeld) (fun hInv' => ?_)
                clear hK K; replace hInv := hide (hInv' (by decide)); clear hInv'; try simp only [Act.put, List.setIfInBounds_toArray, List.set_cons_zero, List.set_cons_succ]
                refine planE [9, 10] ?_
                iterate 2
                  refine PlanE.take (v := ?_) (List.getElem?_toArray.trans rfl) (by kernel_rfl) (fun _ _ _ h => h) (Or.inl ⟨by rfl, ?_⟩) hInv.out (by assumption) (fun hInv' => ?_)
                  rotate_left
                  · intro w hSw; (try dsimp only at hSw); go_simp; (try with_reducible rfl)
                  replace hInv := hide hInv'; clear hInv'; try simp only [Act.put, List.setIfInBounds_toArray, List.set_cons_zero, List.set_cons_succ]
                refine wpAnyE_one (i := 11) (List.getElem?_toArray.trans rfl) (by kernel_rfl) (fun K hK => ?_) hInv.out
                (try dsimp only at hHeld); go_simp
                refine hK.out _ _ (fun h => absurd rfl h) (fun _ => ?_)
                clear hK K hInv; try simp only [Act.put, List.setIfInBounds_toArray, List.set_cons_zero, List.set_cons_succ]
                refine wpAnyE_done (by kernel_rfl) ?_ _
                rw [← hlaP.out] at own8
                have hXC := hide ((hXB.out.stays (up_alloc (o := .cells #[.int .i64 (vv : Int)] 3) (below_drew w11) (Nat.le_refl _))).set2 kp8 own8 (fun j hj => by
                  simp only [Value.ownBlock, Option.some.injEq] at hj
                  subst hj
                  exact hat8.imp id (fun e => Nat.le_of_eq e.symm)))
                have hg8t : g8 ≠ bt := fun e => by
                  subst e
                  rcases hat8 with h1 | h1
                  · exact hPT h1
                  · have hw3 : g8 < w11.heap.size := cell_lt xbB; simp at h1; omega
                have xbC0 : w12.cell? ⟨bt, 0, none⟩ = some (.int .i64 (v : Int)) := ((Keep.new (up_alloc (o := .cells #[.int .i64 (vv : Int)] 3) (below_drew w11) (Nat.le_refl _))).trans kp8).cu xbB hPT
                have xbC : (w12.setCell ⟨rb, 10, none⟩ (.slice (some ⟨g8, 0, none⟩) (k5 + 1) c8)).cell? ⟨bt, 0, none⟩ = some (.int .i64 (v : Int)) := cu_set xbC0 (show rb ≠ bt by omega)
                clear kp8 own8 hgr8 hlt8 hat8 hHeld hKey hXB xbC0
                generalize w12.setCell ⟨rb, 10, none⟩ (.slice (some ⟨g8, 0, none⟩) (k5 + 1) c8) = w13 at hXC xbC ⊢
                go_wp2
                go_roundw
                case rel => exact ⟨j + 1, nm2 + 1, s3, a4, k4, c4, some ⟨g8, 0, none⟩, k5 + 1, c8, wl2, ll2 ++ [vv], by omega, by go_num, hXC, hqF, hk4, hk55, hmd2, hfn, hsm2, hllf, by omega, xbC, hide ⟨hap.out.1, fun e => hg8t (by simpa [Value.ownBlock] using e)⟩⟩
                case measure => simp [intOf]; omega
              · have hdq : decide ((vv : Int) ∈ LP (sl 1 ++ [v])) = false := by simpa using fun hc => hin (lp_mem.1 hc)
                simp only [hdq] at hcc
                have hllf := hide (show k5 ≤ eB es s.lk + (nes (es.take (j + 1))).countP (fun e => decide (e.u = v)) by rw [hcn2.out]; have := hll2.out; omega)
                go_wp2
                (refine wp_region_quiet_hid (by kernel_rfl) (by kernel_rfl) (fun wq hst hni => ?_); (repeat (refine hst.out _ _ _ _ (fun K hK => ?_); go_simp; first | (refine hK.out _ ?_; clear hK K) | (apply Exists.intro; refine ⟨fun _ => ?_, hK.out _ ?_⟩; (go_at_call 56; exact Calls.quiet_of_same (hcc.out _)); clear hK K))); refine hni.out _ _ ?_; clear hst hni wq; intro wqq hw'; obtain ⟨nq, hw''⟩ := hw'; subst hw'')
                have hXB2 := hide (hXB1.out.stays (up_drewN (n := nq) (Below.refl wB.heap.size wB)))
                have e1 : (wB.drewN nq).cell? ⟨be, 1, none⟩ = some (.int .i64 (vv : Int)) := cu_drewN e1B
                have xbB : (wB.drewN nq).cell? ⟨bt, 0, none⟩ = some (.int .i64 (v : Int)) := cu_drewN xbB0
                have k8B : (wB.drewN nq).cell? ⟨rb, 8, none⟩ = some (.slice a4 k4 c4) := cu_drewN k8B
                clear hXB1 e1B xbB0 hcc zrB zeB k9B
                generalize wB.drewN nq = w11 at hXB2 e1 xbB k8B ⊢
                have hl44 : (LP wl2).length = k4 := by rw [lp_len]; exact hk4.out.symm
                have hcw := hide (fun k => contI_any (vv : Int) a4 c4 k4 (LP wl2) (w11.drewN k) (w11.drewN k).heap.size hl44 (own_rowL ((hXB2.out.stays (up_drewN (n := k) (Below.refl w11.heap.size w11))).os 0 (by omega))) (by omega))
                have zr11 : rb < w11.heap.size := cell_lt k8B
                have ze11 : be < w11.heap.size := cell_lt e1
                clear hl44 hdq
                by_cases hw : vv ∈ wl2
                · have hdw : decide ((vv : Int) ∈ LP wl2) = true := by simpa using lp_mem.2 hw
                  simp only [hdw] at hcw
                  have hqF := hide (hqO.out hin hw)
                  clear hqL hqO hqN hin hw hdw
                  go_wp2
                  (refine wp_region_quiet_hid (by kernel_rfl) (by kernel_rfl) (fun wq hst hni => ?_); (repeat (refine hst.out _ _ _ _ (fun K hK => ?_); go_simp; first | (refine hK.out _ ?_; clear hK K) | (apply Exists.intro; refine ⟨fun _ => ?_, hK.out _ ?_⟩; (go_at_call 56; exact Calls.quiet_of_same (hcw.out _)); clear hK K))); refine hni.out _ _ ?_; clear hst hni wq; intro wqq hw'; obtain ⟨nq, hw''⟩ := hw'; subst hw'')
                  have hXB := hide (hXB2.out.stays (up_drewN (n := nq) (Below.refl w11.heap.size w11)))
                  have xbC : (w11.drewN nq).cell? ⟨bt, 0, none⟩ = some (.int .i64 (v : Int)) := cu_drewN xbB
                  clear hXB2 e1 xbB k8B zr11 ze11 hcw
                  go_wp2
                  go_roundw
                  case rel => exact ⟨j + 1, nm2 + 1, s3, a4, k4, c4, a5, k5, c5, wl2, ll2, by omega, by go_num, hXB, hqF, hk4, hk5, hmd2, hfn, hsm2, hllf, by omega, xbC, hap⟩
                  case measure => simp [intOf]; omega
                · have hdw : decide ((vv : Int) ∈ LP wl2) = false := by simpa using fun hc => hw (lp_mem.1 hc)
                  simp only [hdw] at hcw
                  have hqF := hide (hqN.out hin hw)
                  have hk44 := hide (show k4 + 1 = (wl2 ++ [vv]).length by rw [List.length_append, hk4.out]; rfl)
                  have hPT := hap.out.1
                  clear hqL hqO hqN hin hw hdw
                  go_wp2
                  (refine wp_region_quiet_hid (by kernel_rfl) (by kernel_rfl) (fun wq hst hni => ?_); (repeat (refine hst.out _ _ _ _ (fun K hK => ?_); go_simp; first | (refine hK.out _ ?_; clear hK K) | (apply Exists.intro; refine ⟨fun _ => ?_, hK.out _ ?_⟩; (go_at_call 56; exact Calls.quiet_of_same (hcw.out _)); clear hK K))); refine hni.out _ _ ?_; clear hst hni wq; intro wqq hw'; obtain ⟨nq, hw''⟩ := hw'; subst hw'')
                  have hXB := hide (hXB2.out.stays (up_drewN (n := nq) (Below.refl w11.heap.size w11)))
                  have e1 : (w11.drewN nq).cell? ⟨be, 1, none⟩ = some (.int .i64 (vv : Int)) := cu_drewN e1
                  have xbB : (w11.drewN nq).cell? ⟨bt, 0, none⟩ = some (.int .i64 (v : Int)) := cu_drewN xbB
                  clear hXB2 k8B zr11 ze11 hcw
                  generalize w11.drewN nq = w14 at hXB e1 xbB ⊢
                  have oP : Own encI 1 3 w14 w1.heap.size (.slice a4 k4 c4) (LP wl2) := hXB.out.os 0 (by omega)
                  have kP : w14.cell? ⟨rb, 8 + 0, none⟩ = some (.slice a4 k4 c4) := hXB.out.cs 0 (by omega)
                  have fP := hXB.out.fz 8
                  have hPr : (Value.slice a4 k4 c4).ownBlock ≠ some rb := fun e => by have := (oP.block_lt _ e).1; omega
                  have hPe : (Value.slice a4 k4 c4).ownBlock ≠ some be := hbeP.out 0 (by omega) be rfl
                  have hlP : (LP wl2).length = k4 := by rw [lp_len]; exact hk4.out.symm
                  have hKey := hide (show ∀ w', Keep (fun j => (Value.slice a4 k4 c4).ownBlock = some j) w14 w' → (w'.cell? ⟨rb, 8, none⟩ = some (.slice a4 k4 c4) ∧ w'.cell? ⟨be, 1, none⟩ = some (.int .i64 (vv : Int)) ∧ w'.frozen? ⟨rb, 8, none⟩ = false) from fun w' kp => ⟨kp.cu kP hPr, kp.cu e1 hPe, (kp.frozen (p := ⟨rb, 8, none⟩) (show rb < _ from cell_lt kP) hPr).trans fP⟩)
                  have hlaP := hide (lp_app wl2 vv)
                  have hPb := hide (fun j hj => (oP.block_lt j hj).2)
                  clear kP fP oP
                  go_wp2
                  refine wp_region_end (S := (fun w' => w'.cell? ⟨rb, 8, none⟩ = some (.slice a4 k4 c4) ∧ w'.cell? ⟨be, 1, none⟩ = some (.int .i64 (vv : Int)) ∧ w'.frozen? ⟨rb, 8, none⟩ = false)) (t := 11) (by kernel_rfl) ?_ (fun hHeld hInv => ?_)
                  · exact hKey.out _ (Keep.new (below_drew w14))
                  replace hInv := hide hInv
                  refine planE [0, 1, 2, 3, 4, 5, 6] ?_
                  iterate 7
                    refine PlanE.take (v := ?_) (List.getElem?_toArray.trans rfl) (by kernel_rfl) (fun _ _ _ h => h) (Or.inl ⟨by rfl, ?_⟩) hInv.out (by assumption) (fun hInv' => ?_)
                    rotate_left
                    · intro w hSw; (try dsimp only at hSw); go_simp; (try with_reducible rfl)
                    replace hInv := hide hInv'; clear hInv'; try simp only [Act.put, List.setIfInBounds_toArray, List.set_cons_zero, List.set_cons_succ]
                  refine wpAnyE_one (i := 7) (List.getElem?_toArray.trans rfl) (by kernel_rfl) (fun K hK => ?_) hInv.out
                  (go_simp)
                  have hHeld := hKey.out _ (Keep.new (up_alloc (o := .cells #[.int .i64 (vv : Int)] 3) (below_drew w14) (Nat.le_refl _)))
                  refine hK.out _ _ (fun _ => hHeld) (fun hInv' => ?_)
                  clear hK K; replace hInv := hide (hInv' (by decide)); clear hInv'; try simp only [Act.put, List.setIfInBounds_toArray, List.set_cons_zero, List.set_cons_succ]
                  refine wpAnyE_one (i := 8) (List.getElem?_toArray.trans rfl) (by kernel_rfl) (fun K hK => ?_) hInv.out
                  (refine step_pushLA (base := w1.heap.size) (e := 3) (enc := encI) (xs := LP wl2) (v := .slice a4 k4 c4) rfl (.tmp 144) (.tmp 147) 22 rfl _ 8 Tryz.underlying22 info_int rfl ?p1 lenI oneI k4 hlP rfl ((hXB.out.stays (up_alloc (o := .cells #[.int .i64 (vv : Int)] 3) (below_drew w14) (Nat.le_refl _))).os 0 (by omega)) ⟨w14.heap.size, 0, none⟩ 1 (vv : Int) rfl ?p2 ?p3 ?p4 ?p5 ?_; (case p1 => omega); (case p2 => exact newI w14 _ _ _ rfl); (case p3 => omega); (case p4 => unfold maxLen; omega); (case p5 => exact (hXB.out.stays (up_alloc (o := .cells #[.int .i64 (vv : Int)] 3) (below_drew w14) (Nat.le_refl _))).big); intro g8 c8 w12 own8 hgr8 hat8 hlt8; have kp8 := Keep.grown (S := fun j => (Value.slice a4 k4 c4).ownBlock = some j) (Keep.refl _ (w14.drew.alloc (.cells #[.int .i64 (vv : Int)] 3))) hgr8 (fun j hj => .inl hj))
                  have hHeld := hKey.out _ ((Keep.new (up_alloc (o := .cells #[.int .i64 (vv : Int)] 3) (below_drew w14) (Nat.le_refl _))).trans kp8)
                  refine hK.out _ _ (fun _ => hHeld) (fun hInv' => ?_)
                  clear hK K; replace hInv := hide (hInv' (by decide)); clear hInv'; try simp only [Act.put, List.setIfInBounds_toArray, List.set_cons_zero, List.set_cons_succ]
                  refine planE [9, 10] ?_
                  iterate 2
                    refine PlanE.take (v := ?_) (List.getElem?_toArray.trans rfl) (by kernel_rfl) (fun _ _ _ h => h) (Or.inl ⟨by rfl, ?_⟩) hInv.out (by assumption) (fun hInv' => ?_)
                    rotate_left
                    · intro w hSw; (try dsimp only at hSw); go_simp; (try with_reducible rfl)
                    replace hInv := hide hInv'; clear hInv'; try simp only [Act.put, List.setIfInBounds_toArray, List.set_cons_zero, List.set_cons_succ]
                  refine wpAnyE_one (i := 11) (List.getElem?_toArray.trans rfl) (by kernel_rfl) (fun K hK => ?_) hInv.out
                  (try dsimp only at hHeld); go_simp
                  refine hK.out _ _ (fun h => absurd rfl h) (fun _ => ?_)
                  clear hK K hInv; try simp only [Act.put, List.setIfInBounds_toArray, List.set_cons_zero, List.set_cons_succ]
                  refine wpAnyE_done (by kernel_rfl) ?_ _
                  rw [← hlaP.out] at own8
                  have hXC := hide ((hXB.out.stays (up_alloc (o := .cells #[.int .i64 (vv : Int)] 3) (below_drew w14) (Nat.le_refl _))).set0 kp8 own8 (fun j hj => by
                    simp only [Value.ownBlock, Option.some.injEq] at hj
                    subst hj
                    exact hat8.imp id (fun e => Nat.le_of_eq e.symm)))
                  have hg8t : g8 ≠ bt := fun e => by
                    subst e
                    rcases hat8 with h1 | h1
                    · exact hPT h1
                    · have hw3 : g8 < w14.heap.size := cell_lt xbB; simp at h1; omega
                  have xbC0 : w12.cell? ⟨bt, 0, none⟩ = some (.int .i64 (v : Int)) := ((Keep.new (up_alloc (o := .cells #[.int .i64 (vv : Int)] 3) (below_drew w14) (Nat.le_refl _))).trans kp8).cu xbB hPT
                  have xbC : (w12.setCell ⟨rb, 8, none⟩ (.slice (some ⟨g8, 0, none⟩) (k4 + 1) c8)).cell? ⟨bt, 0, none⟩ = some (.int .i64 (v : Int)) := cu_set xbC0 (show rb ≠ bt by omega)
                  clear kp8 own8 hgr8 hlt8 hat8 hHeld hKey hXB xbC0
                  generalize w12.setCell ⟨rb, 8, none⟩ (.slice (some ⟨g8, 0, none⟩) (k4 + 1) c8) = w13 at hXC xbC ⊢
                  go_wp2
                  go_roundw
                  case rel => exact ⟨j + 1, nm2 + 1, s3, some ⟨g8, 0, none⟩, k4 + 1, c8, a5, k5, c5, wl2 ++ [vv], ll2, by omega, by go_num, hXC, hqF, hk44, hk5, hmd2, hfn, hsm2, hllf, by omega, xbC, hide ⟨fun e => hg8t (by simpa [Value.ownBlock] using e), hap.out.2⟩⟩
                  case measure => simp [intOf]; omega
        · have hae : aedge h v s2 ⟨u2, vv, ee⟩ = s2 := aedge_no (fun hc => huv ⟨hc.1, fun e => hc.2.1 (by rw [← hy.out]; exact e)⟩)
          have hfin := hide (show (nes (es.take (j + 1))).foldl (aedge h v) s0 = s2 by rw [hfn.out, hae])
          have hllf := hide (show k5 ≤ eB es s.lk + (nes (es.take (j + 1))).countP (fun e => decide (e.u = v)) by rw [hcn.out]; have := hll2.out; omega)
          have hdr := hide (fun k => hX8.out.stays ((up_drewN (n := k) (Below.refl w8.heap.size w8)) : Below w8.heap.size w8 (w8.drewN k)))
          have hxd := hide (fun k => (cu_drewN xb8 : (w8.drewN k).cell? ⟨bt, 0, none⟩ = some (.int .i64 (v : Int))))
          clear hae hX8
          by_cases h0 : u2 = v
          · have hy0 : y = 1099511627776 := Classical.byContradiction fun h1 => huv ⟨h0, h1⟩
            have q1 : ((u2 : Int) != (v : Int)) = false := by simp [h0]
            subst hy0
            replace h0 := hide h0
            clear huv
            go_wp2
            (refine wp_region_quiet_hid (by kernel_rfl) (by kernel_rfl) (fun wq hst hni => ?_); (repeat (refine hst.out _ _ _ _ (fun K hK => ?_); go_simp; first | (refine hK.out _ ?_; clear hK K) | (apply Exists.intro; refine ⟨fun _ => ?_, hK.out _ ?_⟩; (fail); clear hK K))); refine hni.out _ _ ?_; clear hst hni wq; intro wqq hw'; obtain ⟨nq, hw''⟩ := hw'; subst hw'')
            go_wp2
            go_roundw
            case rel => exact ⟨j + 1, nm2, s2, a4, k4, c4, a5, k5, c5, wl2, ll2, by omega, by go_num, hide (hdr.out nq), hq, hk4, hk5, hmd, hfin, hsm, hllf, by omega, hxd.out nq, hap⟩
            case measure => simp [intOf]; omega
          · have q1 : ((u2 : Int) != (v : Int)) = true := by simp; omega
            replace h0 := hide h0
            clear huv
            go_wp2
            (refine wp_region_quiet_hid (by kernel_rfl) (by kernel_rfl) (fun wq hst hni => ?_); (repeat (refine hst.out _ _ _ _ (fun K hK => ?_); go_simp; first | (refine hK.out _ ?_; clear hK K) | (apply Exists.intro; refine ⟨fun _ => ?_, hK.out _ ?_⟩; (fail); clear hK K))); refine hni.out _ _ ?_; clear hst hni wq; intro wqq hw'; obtain ⟨nq, hw''⟩ := hw'; subst hw'')
            go_wp2
            go_roundw
            case rel => exact ⟨j + 1, nm2, s2, a4, k4, c4, a5, k5, c5, wl2, ll2, by omega, by go_num, hide (hdr.out nq), hq, hk4, hk5, hmd, hfin, hsm, hllf, by omega, hxd.out nq, hap⟩
            case measure => simp [intOf]; omega
      · obtain rfl : el = j := by omega
        have htk : es.take el = es := List.take_of_length_le (by have := hEd.out.2.2.1; omega)
        have hfs1 := hfs.out
        rw [htk, ← (show aexpand (nes es) h v s = (nes es).foldl (aedge h v) s0 by rw [hs0.out]; rfl)] at hfs1
        have hll1 := hll.out
        rw [htk] at hll1
        obtain ⟨hAI, hat, had, hak⟩ := hlst.out
        rw [hfs1] at hAI hat had hak hstep
        have hSet := hide (rsettle_any tgN htg (⟨nm2, a4, k4, c4, some ⟨g6, 0, none⟩, k1 + 1, c6, a5, k5, c5, _, ar, t, rc, ros, hX.out, by rw [hat]; exact ht.out, ⟨hq.out.nd, hq.out.iw, hq.out.ik, hq.out.od, hq.out.ia, by
          show ll2.length ≤ _
          rw [hak, ← hk5.out]
          unfold eB at hll1 ⊢
          rw [hEL.out]
          exact hll1⟩, hk4.out, by show k1 + 1 = (sl 1 ++ [v]).length; rw [List.length_append, ← hk1.out]; rfl, hk5.out, by rw [had, ← hD.out]; have := hEd.out.2.2.2; omega⟩ : RAS n rb mb pb (.slice ae el ec) (.slice ha n hc) (.slice aw m wk) fr (tgN : Int) es s2 w1 wr) hC.out hAI (by rw [hat]; exact Nat.le_of_lt htl))
        have hAI2 := hide hAI
        clear hX hq hmd hfs1 hfs hsm hll hll1 hAI xb hap
        go_wp2_with fail
        refine hSet.out.mono ?_
        rintro e w9 ⟨rfl, s', hst, hR⟩
        have hfin := hide (show RStepAns n rb mb pb (.slice ae el ec) (.slice ha n hc) (.slice aw m wk) fr tgN es h ws s w1 (.returned (.tuple #[])) w9 from ⟨rfl, s', hstep.out s' hst, hR, ainv_settle hst htg hn64.2 hAI2.out, (settle_told hst (by rw [hat]; have := hm.out; omega)).1⟩)
        clear hst hR hSet
        go_wp2
        go_end0
        exact hfin.out
end
end Go.Proofs.YtccailcjclbhlaaGreat

/-! Several texts in one: -/
/-! The reference's SameWay and SameFound over two that hold the same: true. Conditions: the lists read. -/
namespace Go.Proofs.YtccailcjclbhlaaGreat
open Go.RowKit
set_option linter.unusedSimpArgs false
set_option linter.unusedVariables false
set_option maxHeartbeats 1000000 in
theorem sw_any (a b : Option Addr) (c1 c2 m : Nat) (xs : List Int) (cost : Int) (w : World) (h1 : xs.length = m) (hx : Row encI 1 w w.heap.size a xs) (hy : Row encI 1 w w.heap.size b xs) (hl : m ≤ 9223372036854775807) :
    Calls Tryz.prog 58 #[.agg #[.slice a m c1, .int .i64 cost], .agg #[.slice b m c2, .int .i64 cost]] w fun e w' => e = .returned (.bool true) ∧ Below w.heap.size w w' := by
  have hE := hide (fun (w' : World) (hb : Below w.heap.size w w') => eqI a b c1 c2 m m xs xs w' w.heap.size w.heap.size h1 h1 (hx.below hb (Nat.le_refl _)) (hy.below hb (Nat.le_refl _)) hl hl true (by simp))
  clear hx hy
  replace h1 := hide h1
  go_enter Tryz.func58, Tryz.ntmps58
  go_wp2_with fail
  refine (hE.out _ (by exact bel)).mono ?_
  rintro e w1 ⟨rfl, m2, rfl⟩
  go_wp2
  go_ret
  exact ⟨rfl, bel⟩
end Go.Proofs.YtccailcjclbhlaaGreat

/-! What a search answers, as plain data. Conditions: none. -/
namespace Go.Proofs.YtccailcjclbhlaaGreat
open Go.RowKit
set_option linter.unusedSimpArgs false
set_option linter.unusedVariables false
end Go.Proofs.YtccailcjclbhlaaGreat

/-! The document's SameRound over two rounds that hold the same, and EqualFunc over two lists of them: true. Conditions: the ways read. -/
namespace Go.Proofs.YtccailcjclbhlaaGreat
open Go.RowKit
set_option linter.unusedSimpArgs false
set_option linter.unusedVariables false
theorem sameround_any (wa wb cost dn : Int) (a b : Option Addr) (m c1 c2 : Nat) (p : List Int) (w : World) (hm : p.length = m) (h1 : Row encI 1 w w.heap.size a p) (h2 : Row encI 1 w w.heap.size b p) (hm2 : m ≤ 1000) :
    Calls Tryz.prog 40 #[.agg #[.int .i64 wa, .int .i64 wb, .slice a m c1, .int .i64 cost, .int .i64 dn], .agg #[.int .i64 wa, .int .i64 wb, .slice b m c2, .int .i64 cost, .int .i64 dn]] w fun e w' => e = .returned (.bool true) ∧ Below w.heap.size w w' := by
  have hW := hide (fun (w' : World) (hb : Below w.heap.size w w') => sw_any a b c1 c2 m p cost w' hm ((h1.below hb (Nat.le_refl _)).mono hb.size) ((h2.below hb (Nat.le_refl _)).mono hb.size) (by omega))
  clear h1 h2
  replace hm := hide hm
  go_enter Tryz.func40, Tryz.ntmps40
  go_wp2_with fail
  refine (hW.out _ (by exact bel)).mono ?_
  rintro e w1 ⟨rfl, hb1⟩
  have hb2 := hide (((bel : Below w.heap.size w _)).trans (hb1.mono (by simp; omega)))
  clear hb1
  go_wp2
  go_ret
  exact ⟨rfl, hb2.out⟩
end Go.Proofs.YtccailcjclbhlaaGreat

/-! Searches by rounds as objects that own what they made: what a call of one does, and that it leaves all else alone. Conditions: stated with each. -/
namespace Go.Proofs.YtccailcjclbhlaaGreat
open Go.RowKit
set_option linter.unusedSimpArgs false
set_option linter.unusedVariables false
/-- all that is there but A -/
@[reducible] def AFr.but (A : Nat → Prop) (w : World) : AFr := ⟨fun j => j < w.heap.size ∧ ¬ A j, w.heap.size, fun j => w.heap[j]?⟩
theorem AF.but {A A' : Nat → Prop} (w : World) (h : ∀ j, A' j → A j) : @AF (AFr.but A w) A' w := ⟨Nat.le_refl _, fun j hj => ⟨hj.1, rfl, fun ha => hj.2 (h j ha)⟩⟩
/-- a world's first n blocks -/
def cutW (w : World) (n : Nat) : World := { w with heap := w.heap.extract 0 n }
theorem cutW_size {w : World} {n : Nat} (h : n ≤ w.heap.size) : (cutW w n).heap.size = n := by simp [cutW]; omega
theorem cutW_block {w : World} {n j : Nat} (h : n ≤ w.heap.size) (hj : j < n) : (cutW w n).heap[j]? = w.heap[j]? := by
  simp [cutW, Array.getElem?_extract]; omega
theorem cutW_keep {w : World} {n : Nat} (S : Nat → Prop) (h : n ≤ w.heap.size) : Keep S (cutW w n) w :=
  ⟨rfl, rfl, rfl, by rw [cutW_size h]; exact h, fun k hk _ => by rw [cutW_size h] at hk; exact (cutW_block h hk).symm⟩
/-- what a set becomes by what is made -/
def grown (A : Nat → Prop) (w w' : World) (j : Nat) : Prop := A j ∨ (w.heap.size ≤ j ∧ j < w'.heap.size)
theorem AC.re {n sb gc gp gd gh hc m wc el ec : Nat} {ha aw ae : Option Addr} {h : Nat → Int} {ws : List P2} {es : List Ed} {wS wS' : World} {T : Nat → Prop} (hC : AC n sb gc gp gd gh hc m wc el ec ha aw ae h ws es wS) (kp : Keep T wS wS') (hs : wS'.heap.size = wS.heap.size) (hae : ∀ b o, ae = some ⟨b, o, none⟩ → es ≠ [] → ¬ T b ∧ ¬ AXb sb gc gp gd gh b) (hha : ∀ b o, ha = some ⟨b, o, none⟩ → ¬ T b) (haw : ∀ b o, aw = some ⟨b, o, none⟩ → ¬ T b) : AC n sb gc gp gd gh hc m wc el ec ha aw ae h ws es wS' := by
  refine ⟨by rw [hs]; exact row_keep hC.hr kp hha, hC.hx, by rw [hs]; exact row_keep hC.wr kp haw, hC.wx, fun wz hk => ?_, hC.hn, hC.hh, hC.hw, hC.wl, hC.es⟩
  rw [hs]
  by_cases he : es = []
  · subst he; exact Row.nil _ _ _ _ _
  · exact row_keep (row_keep (hC.er wS (Keep.refl _ _)) kp (fun b o e => (hae b o e he).1)) hk (fun b o e => (hae b o e he).2)
theorem AX.rebase {I1 I2 : AFr} {n sb gc gp gd gh : Nat} {ev ov hv wv : Value} {tg : Int} {v : Value} {k : Nat} {f : Nat → Ed} {lv : Value} {ls : List Nat} {rv : Value} {ros : List RV} {s : AS} {wS wr wS' w' : World} (h : @AX I1 n sb gc gp gd gh ev ov hv wv tg v k f lv ls rv ros s wS wr) {T : Nat → Prop} (kp : Keep T wr w') (hT : ∀ j, AOwn sb gc gp gd gh v lv rv ros j → ¬ T j) (hs : wS'.heap.size = wS.heap.size) (hk : Keep (AXb sb gc gp gd gh) wS' w') (hf : @AF I2 (AOwn sb gc gp gd gh v lv rv ros) w') : @AX I2 n sb gc gp gd gh ev ov hv wv tg v k f lv ls rv ros s wS' w' := by
  have n1 : ¬ T sb := hT _ (.inl (.inl rfl))
  have n2 : ¬ T gc := hT _ (.inl (.inr (.inl rfl)))
  have n3 : ¬ T gp := hT _ (.inl (.inr (.inr (.inl rfl))))
  have n4 : ¬ T gd := hT _ (.inl (.inr (.inr (.inr (.inl rfl)))))
  have n5 : ¬ T gh := hT _ (.inl (.inr (.inr (.inr (.inr rfl)))))
  obtain ⟨g_c0, g_c1, g_c2, g_c3, g_c4, g_c5, g_c6, g_c7, g_c8, g_c9, g_c10, g_c11, g_c12, g_fz, g_cost, g_pred, g_lk, g_heap, g_late, g_rnds, g_told, g_keep, g_hs, g_apL, g_apR, g_apP, g_lt, g_ne, g_nf⟩ := h
  exact ⟨kp.cu g_c0 n1, kp.cu g_c1 n1, kp.cu g_c2 n1, kp.cu g_c3 n1, kp.cu g_c4 n1, kp.cu g_c5 n1, kp.cu g_c6 n1, kp.cu g_c7 n1, kp.cu g_c8 n1, kp.cu g_c9 n1, kp.cu g_c10 n1, kp.cu g_c11 n1, kp.cu g_c12 n1,
    fun o => (kp.frozen (p := ⟨sb, o, none⟩) (show sb < _ from cell_lt g_c0) n1).trans (g_fz o),
    kp.own g_cost (fun j hj => by simp only [Value.ownBlock, Option.some.injEq] at hj; subst hj; exact n2), kp.own g_pred (fun j hj => by simp only [Value.ownBlock, Option.some.injEq] at hj; subst hj; exact n3), kp.own g_lk (fun j hj => by simp only [Value.ownBlock, Option.some.injEq] at hj; subst hj; exact n4),
    g_heap.keep kp n5 (fun j hj => hT j (.inr (.inl hj))), by rw [hs]; exact kp.own g_late (fun j hj => hT j (.inr (.inr (.inl hj)))), by rw [hs]; exact kp.own g_rnds (fun j hj => hT j (.inr (.inr (.inr (.inl hj))))), by rw [hs]; exact g_told.keep kp (fun j hj => hT j (.inr (.inr (.inr (.inr hj))))),
    hk, by rw [hs]; exact g_hs, g_apL, g_apR, g_apP, by rw [hs]; exact g_lt, g_ne, hf⟩
/-- the object between two calls, all that is its own in A -/
def AHeldS [AFr] (A : Nat → Prop) (n sb gc gp gd gh : Nat) (ev ov hv wv : Value) (tg : Int) (es : List Ed) (h : Nat → Int) (ws : List P2) (s : AS) (wS wr : World) : Prop :=
  ∃ sx, sx.told = s.told ∧ sx.done = s.done ∧ (s.told.length < ws.length → sx = s) ∧ ∃ a1 q1 c1 f1 al ll lc ls ar t rc ros, AX n sb gc gp gd gh ev ov hv wv tg (.slice a1 q1 c1) q1 f1 (.slice al ll lc) ls (.slice ar t rc) ros sx wS wr ∧ (∀ j, AOwn sb gc gp gd gh (.slice a1 q1 c1) (.slice al ll lc) (.slice ar t rc) ros j → A j) ∧ t = sx.told.length ∧ q1 ≤ 64 + eB es sx.lk ∧ ll = ls.length ∧ ll ≤ 64 + eB es sx.lk ∧ HeapOK plLt q1 f1 ∧ (∀ r, ws[sx.told.length]? = some r → AHas r h n sx (RW q1 f1)) ∧ LaL sx ls ∧ (∀ v ∈ ls, v < n) ∧ (true = true → ∀ r, ws[sx.told.length]? = some r → 0 < q1 ∧ ∃ v, ANext r h n sx v ∧ f1 0 = apl r h sx v)
theorem AHeldS.held {I : AFr} {A : Nat → Prop} {n sb gc gp gd gh : Nat} {ev ov hv wv : Value} {tg : Int} {es : List Ed} {h : Nat → Int} {ws : List P2} {s : AS} {wS wr : World} (hA : AHeldS A n sb gc gp gd gh ev ov hv wv tg es h ws s wS wr) : AHeld n sb gc gp gd gh ev ov hv wv tg es h ws s wS wr := by
  obtain ⟨sx, h1, h2, h3, a1, q1, c1, f1, al, ll, lc, ls, ar, t, rc, ros, hX, _, hr⟩ := hA
  exact ⟨sx, h1, h2, h3, a1, q1, c1, f1, al, ll, lc, ls, ar, t, rc, ros, hX, hr⟩
theorem AHeldS.rebase {I1 I2 : AFr} {A : Nat → Prop} {n sb gc gp gd gh : Nat} {ev ov hv wv : Value} {tg : Int} {es : List Ed} {h : Nat → Int} {ws : List P2} {s : AS} {wS wr wS' w' : World} (hA : @AHeldS I1 A n sb gc gp gd gh ev ov hv wv tg es h ws s wS wr) {T : Nat → Prop} (kp : Keep T wr w') (hT : ∀ j, A j → ¬ T j) (hs : wS'.heap.size = wS.heap.size) (hk : Keep (AXb sb gc gp gd gh) wS' w') (hf : ∀ A', (∀ j, A' j → A j) → @AF I2 A' w') : @AHeldS I2 A n sb gc gp gd gh ev ov hv wv tg es h ws s wS' w' := by
  obtain ⟨sx, h1, h2, h3, a1, q1, c1, f1, al, ll, lc, ls, ar, t, rc, ros, hX, hA, hr⟩ := hA
  exact ⟨sx, h1, h2, h3, a1, q1, c1, f1, al, ll, lc, ls, ar, t, rc, ros, hX.rebase kp (fun j hj => hT j (hA j hj)) hs hk (hf _ hA), hA, hr⟩
theorem AHeldS.keep {I : AFr} {A : Nat → Prop} {n sb gc gp gd gh : Nat} {ev ov hv wv : Value} {tg : Int} {es : List Ed} {h : Nat → Int} {ws : List P2} {s : AS} {wS wr : World} (hA : AHeldS A n sb gc gp gd gh ev ov hv wv tg es h ws s wS wr) : Keep (AXb sb gc gp gd gh) wS wr ∧ ∀ j, AXb sb gc gp gd gh j → A j := by
  obtain ⟨sx, h1, h2, h3, a1, q1, c1, f1, al, ll, lc, ls, ar, t, rc, ros, hX, hA, hr⟩ := hA
  exact ⟨hX.keep, fun j hj => hA j (.inl hj)⟩
/-- behind a call: all else as it was -/
theorem AHeld.owned {A : Nat → Prop} {w0 : World} {n sb gc gp gd gh : Nat} {ev ov hv wv : Value} {tg : Int} {es : List Ed} {h : Nat → Int} {ws : List P2} {s : AS} {wS wr : World} (hA : @AHeld (AFr.but A w0) n sb gc gp gd gh ev ov hv wv tg es h ws s wS wr) (hk0 : Keep (AXb sb gc gp gd gh) wS w0) : @AHeldS AFr.none (grown A w0 wr) n sb gc gp gd gh ev ov hv wv tg es h ws s wS wr ∧ Keep A w0 wr := by
  letI : AFr := AFr.but A w0
  obtain ⟨sx, h1, h2, h3, a1, q1, c1, f1, al, ll, lc, ls, ar, t, rc, ros, hX, hr⟩ := hA
  have hf := hX.nf
  have hk := hX.keep
  have hl := hX.lt
  refine ⟨⟨sx, h1, h2, h3, a1, q1, c1, f1, al, ll, lc, ls, ar, t, rc, ros, hX.rebase (I2 := AFr.none) (Keep.refl (fun _ => False) wr) (fun _ _ e => e) rfl hk (AF.ofNone _ _), fun j hj => ?_, hr⟩, hk.os.trans hk0.os.symm, hk.tape.trans hk0.tape.symm, hk.output.trans hk0.output.symm, hf.1, fun j hj hn => (hf.2 j ⟨hj, hn⟩).2.1⟩
  have hjw : j < wr.heap.size := by
    have hz := hX.big
    rcases hj with g | g | g | g | g
    · unfold AXb at g; omega
    · exact (hX.heap.own.block_lt j g).2
    · exact (hX.late.block_lt j g).2
    · exact (hX.rnds.block_lt j g).2
    · exact (hX.told.lt g).2
  by_cases ha : A j
  · exact .inl ha
  · by_cases hw : j < w0.heap.size
    · exact absurd hj (hf.2 j ⟨hw, ha⟩).2.2
    · exact .inr ⟨by omega, hjw⟩
section
attribute [local instance] AFr.none
/-- a search of the program: sb the object, A what is its own, C what it reads besides -/
def AObj (n tg : Nat) (es : List Ed) (h : Nat → Int) (ws : List P2) (s : AS) (sb : Nat) (A C : Nat → Prop) (w : World) : Prop :=
  ∃ gc gp gd gh hc wc ec ha aw ae O lo hi wS, AC n sb gc gp gd gh hc ws.length wc es.length ec ha aw ae h ws es wS ∧ OutsAt wS lo hi O n es ∧ (∀ k, lo ≤ k → k < hi → ¬ AXb sb gc gp gd gh k) ∧ AInv n h s ∧ s.told.length ≤ ws.length ∧ @AHeldS AFr.none A n sb gc gp gd gh (.slice ae es.length ec) (.slice (some ⟨O, 0, none⟩) n n) (.slice ha n hc) (.slice aw ws.length wc) (tg : Int) es h ws s wS w ∧ (∀ j, CB es ae ha aw j → C j) ∧ (∀ j, lo ≤ j → j < hi → C j) ∧ (∀ j, A j → j < w.heap.size) ∧ (∀ b o, ae = some ⟨b, o, none⟩ → es ≠ [] → ¬ AXb sb gc gp gd gh b)
section
variable {n tg : Nat} {es : List Ed} {h : Nat → Int} {ws : List P2} {s : AS} {sb : Nat} {A C : Nat → Prop} {w w' : World}
theorem AObj.lt (hO : AObj n tg es h ws s sb A C w) {j : Nat} (hj : A j) : j < w.heap.size := by
  obtain ⟨gc, gp, gd, gh, hc, wc, ec, ha, aw, ae, O, lo, hi, wS, g1, g2, g3, g4, g5, g6, g7, g8, g9, g10⟩ := hO
  exact g9 j hj
theorem AObj.inv (hO : AObj n tg es h ws s sb A C w) : AInv n h s ∧ s.told.length ≤ ws.length ∧ ws.length ≤ 8 ∧ 1 ≤ ws.length ∧ n ≤ 64 := by
  obtain ⟨gc, gp, gd, gh, hc, wc, ec, ha, aw, ae, O, lo, hi, wS, g1, g2, g3, g4, g5, g6, g7, g8, g9, g10⟩ := hO
  exact ⟨g4, g5, g1.wl.2.2, g1.wl.2.1, g1.hn.2⟩
theorem AObj.keep (hO : AObj n tg es h ws s sb A C w) {T : Nat → Prop} (kp : Keep T w w') (hT : ∀ j, A j ∨ C j → ¬ T j) : AObj n tg es h ws s sb A C w' := by
  obtain ⟨gc, gp, gd, gh, hc, wc, ec, ha, aw, ae, O, lo, hi, wS, g1, g2, g3, g4, g5, g6, g7, g8, g9, g10⟩ := hO
  obtain ⟨hk, hax⟩ := g6.keep
  have hz : wS.heap.size ≤ w'.heap.size := Nat.le_trans hk.size kp.size
  have hcs := cutW_size hz
  have hkc : Keep (fun j => AXb sb gc gp gd gh j ∨ ¬ C j) wS (cutW w' wS.heap.size) := by
    refine ⟨(kp.os.trans hk.os), kp.tape.trans hk.tape, kp.output.trans hk.output, Nat.le_of_eq hcs.symm, fun j hj hn => ?_⟩
    have h1 : ¬ AXb sb gc gp gd gh j := fun e => hn (.inl e)
    have h2 : C j := Classical.byContradiction fun e => hn (.inr e)
    rw [cutW_block hz hj, kp.block j (Nat.lt_of_lt_of_le hj hk.size) (hT j (.inr h2)), hk.block j hj h1]
  refine ⟨gc, gp, gd, gh, hc, wc, ec, ha, aw, ae, O, lo, hi, cutW w' wS.heap.size, g1.re hkc hcs (fun b o hb he => ⟨fun e => e.elim (g10 b o hb he) (fun e => e (g7 b (.inl ⟨he, o, hb⟩))), g10 b o hb he⟩) (fun b o hb e => e.elim (g1.hx b o hb) (fun e => e (g7 b (.inr (.inl ⟨o, hb⟩))))) (fun b o hb e => e.elim (g1.wx b o hb) (fun e => e (g7 b (.inr (.inr ⟨o, hb⟩))))), g2.later hkc (fun k k1 k2 e => ?_), g3, g4, g5, g6.rebase kp (fun j hj => hT j (.inl hj)) hcs (cutW_keep _ hz) (fun A' _ => AF.ofNone _ _), g7, g8, fun j hj => Nat.lt_of_lt_of_le (g9 j hj) kp.size, g10⟩
  rcases e with e | e
  · exact g3 k k1 k2 e
  · exact e (g8 k k1 k2)
theorem AObj.stays (hO : AObj n tg es h ws s sb A C w) (hb : Below w.heap.size w w') : AObj n tg es h ws s sb A C w' := hO.keep (Keep.new (S := fun _ => False) hb) (fun _ _ e => e)
/-- the cells that its Over and its Rounds read -/
theorem AObj.cells (hO : AObj n tg es h ws s sb A C w) : ∃ ar aw rc wc, w.cell? ⟨sb, 5, none⟩ = some (.slice aw ws.length wc) ∧ w.cell? ⟨sb, 12, none⟩ = some (.slice ar s.told.length rc) := by
  obtain ⟨gc, gp, gd, gh, hc, wc, ec, ha, aw, ae, O, lo, hi, wS, g1, g2, g3, g4, g5, g6, g7, g8, g9, g10⟩ := hO
  obtain ⟨sx, h1, h2, h3, a1, q1, c1, f1, al, ll, lc, ls, ar, t, rc, ros, hX, hA, ht, hr⟩ := g6
  subst ht
  rw [h1] at hX
  exact ⟨ar, aw, rc, wc, hX.c5, hX.c12⟩
theorem aobj_step (htg : tg < n) (nn : Int) (hnn : nn ≤ 9223372036854775807) (hO : AObj n tg es h ws s sb A C w) :
    Calls Tryz.prog 34 #[.pointer (some ⟨sb, 0, none⟩), .int .i64 nn] w fun e w' => ∃ (k : Nat) (s' : AS), e = .returned (.int .i64 (k : Int)) ∧ ASteps ws es h n tg nn.toNat s k s' ∧ AObj n tg es h ws s' sb (grown A w w') C w' ∧ Keep A w w' := by
  obtain ⟨gc, gp, gd, gh, hc, wc, ec, ha, aw, ae, O, lo, hi, wS, g1, g2, g3, g4, g5, g6, g7, g8, g9, g10⟩ := hO
  obtain ⟨hk, hax⟩ := g6.keep
  have hH := (g6.rebase (I2 := AFr.but A w) (Keep.refl (fun _ => False) w) (fun _ _ e => e) rfl hk (fun A' hA' => AF.but w hA')).held
  refine (@astep_any (AFr.but A w) n sb gc gp gd gh hc ws.length wc es.length ec ha aw ae h ws es s wS w tg O lo hi htg nn hnn hH g1 g2 g3 g4 g5).mono ?_
  rintro e w' ⟨k, s', rfl, k1, k2, k3, k4⟩
  obtain ⟨h1, h2⟩ := AHeld.owned k2 hk
  refine ⟨k, s', rfl, k1, ⟨gc, gp, gd, gh, hc, wc, ec, ha, aw, ae, O, lo, hi, wS, g1, g2, g3, k3, k4, h1, g7, g8, fun j hj => ?_, g10⟩, h2⟩
  rcases hj with hj | hj
  · exact Nat.lt_of_lt_of_le (g9 j hj) h2.size
  · exact hj.2
theorem aobj_rounds (hO : AObj n tg es h ws s sb A C w) :
    Calls Tryz.prog 32 #[.pointer (some ⟨sb, 0, none⟩)] w fun e w' => ∃ a c, e = .returned (.slice a s.told.length c) ∧ RoundsAt w.heap.size w' (.slice a s.told.length c) s.told ∧ Below w.heap.size w w' := by
  obtain ⟨gc, gp, gd, gh, hc, wc, ec, ha, aw, ae, O, lo, hi, wS, g1, g2, g3, g4, g5, g6, g7, g8, g9, g10⟩ := hO
  obtain ⟨sx, h1, h2, h3, a1, q1, c1, f1, al, ll, lc, ls, ar, t, rc, ros, hX, hA, ht, hr⟩ := g6
  subst ht
  have hg := g4.lp
  have h8 := g1.wl.2.2
  rw [← h1] at g5 hg ⊢
  exact @arounds_any AFr.none n sb gc gp gd gh q1 _ rc ar _ _ _ _ _ _ f1 _ ls ros sx wS w hX hg (by omega)
end
end
theorem RXf.rebase {I1 I2 : AFr} {n rb mb pb nm : Nat} {ev hv wv : Value} {fr tg : Int} {sv : Nat → Value} {sl : Nat → List Nat} {rv : Value} {ros : List RV} {s : AS} {w1 wr w1' w' : World} (h : @RXf I1 n rb mb pb nm ev hv wv fr tg sv sl rv ros s w1 wr) {T : Nat → Prop} (kp : Keep T wr w') (hT : ∀ j, ROwn rb mb pb sv rv ros j → ¬ T j) (hs : w1'.heap.size = w1.heap.size) (hk : Keep (RXb rb mb pb) w1' w') (hf : @AF I2 (ROwn rb mb pb sv rv ros) w') : @RXf I2 n rb mb pb nm ev hv wv fr tg sv sl rv ros s w1' w' := by
  have n1 : ¬ T rb := hT _ (.inl (.inl rfl))
  have n2 : ¬ T mb := hT _ (.inl (.inr (.inl rfl)))
  have n3 : ¬ T pb := hT _ (.inl (.inr (.inr (.inl rfl))))
  obtain ⟨g_c0, g_c1, g_c2, g_c3, g_c4, g_c5, g_c6, g_c7, g_cs, g_c11, g_c12, g_fz, g_cm, g_pm, g_os, g_rnds, g_told, g_keep, g_ap, g_apR, g_apP, g_lt, g_ne, g_nf⟩ := h
  exact ⟨kp.cu g_c0 n1, kp.cu g_c1 n1, kp.cu g_c2 n1, kp.cu g_c3 n1, kp.cu g_c4 n1, kp.cu g_c5 n1, kp.cu g_c6 n1, kp.cu g_c7 n1, fun i hi => kp.cu (g_cs i hi) n1, kp.cu g_c11 n1, kp.cu g_c12 n1, fun o => (kp.frozen (p := ⟨rb, o, none⟩) (show rb < _ from cell_lt g_c0) n1).trans (g_fz o),
    g_cm.keep kp n2, g_pm.keep kp n3, fun i hi => by rw [hs]; exact kp.own (g_os i hi) (fun j hj => hT j (.inr (.inl ⟨i, hi, hj⟩))), by rw [hs]; exact kp.own g_rnds (fun j hj => hT j (.inr (.inr (.inl hj)))), by rw [hs]; exact g_told.keep kp (fun j hj => hT j (.inr (.inr (.inr hj)))), hk, g_ap, g_apR, g_apP, by rw [hs]; exact g_lt, g_ne, hf⟩
/-- the document's object, all that is its own in R -/
def RHeldS [AFr] (R : Nat → Prop) (n rb mb pb : Nat) (ev hv wv : Value) (fr tg : Int) (es : List Ed) (s : AS) (w1 wr : World) : Prop :=
  ∃ nm a0 k0 c0 a1 k1 c1 a2 k2 c2 sl ar t rc ros, RXf n rb mb pb nm ev hv wv fr tg (sv3 (.slice a0 k0 c0) (.slice a1 k1 c1) (.slice a2 k2 c2)) sl (.slice ar t rc) ros s w1 wr ∧ (∀ j, ROwn rb mb pb (sv3 (.slice a0 k0 c0) (.slice a1 k1 c1) (.slice a2 k2 c2)) (.slice ar t rc) ros j → R j) ∧ t = s.told.length ∧ AL n es s (sl 0) (sl 1) (sl 2) ∧ k0 = (sl 0).length ∧ k1 = (sl 1).length ∧ k2 = (sl 2).length ∧ nm ≤ 2 + 1000 * s.done
theorem RHeldS.held {I : AFr} {R : Nat → Prop} {n rb mb pb : Nat} {ev hv wv : Value} {fr tg : Int} {es : List Ed} {s : AS} {w1 wr : World} (hR : RHeldS R n rb mb pb ev hv wv fr tg es s w1 wr) : RAS n rb mb pb ev hv wv fr tg es s w1 wr := by
  obtain ⟨nm, a0, k0, c0, a1, k1, c1, a2, k2, c2, sl, ar, t, rc, ros, hX, _, hr⟩ := hR
  exact ⟨nm, a0, k0, c0, a1, k1, c1, a2, k2, c2, sl, ar, t, rc, ros, hX, hr⟩
theorem RHeldS.rebase {I1 I2 : AFr} {R : Nat → Prop} {n rb mb pb : Nat} {ev hv wv : Value} {fr tg : Int} {es : List Ed} {s : AS} {w1 wr w1' w' : World} (hR : @RHeldS I1 R n rb mb pb ev hv wv fr tg es s w1 wr) {T : Nat → Prop} (kp : Keep T wr w') (hT : ∀ j, R j → ¬ T j) (hs : w1'.heap.size = w1.heap.size) (hk : Keep (RXb rb mb pb) w1' w') (hf : ∀ R', (∀ j, R' j → R j) → @AF I2 R' w') : @RHeldS I2 R n rb mb pb ev hv wv fr tg es s w1' w' := by
  obtain ⟨nm, a0, k0, c0, a1, k1, c1, a2, k2, c2, sl, ar, t, rc, ros, hX, hA, hr⟩ := hR
  exact ⟨nm, a0, k0, c0, a1, k1, c1, a2, k2, c2, sl, ar, t, rc, ros, hX.rebase kp (fun j hj => hT j (hA j hj)) hs hk (hf _ hA), hA, hr⟩
theorem RHeldS.keep {I : AFr} {R : Nat → Prop} {n rb mb pb : Nat} {ev hv wv : Value} {fr tg : Int} {es : List Ed} {s : AS} {w1 wr : World} (hR : RHeldS R n rb mb pb ev hv wv fr tg es s w1 wr) : Keep (RXb rb mb pb) w1 wr ∧ ∀ j, RXb rb mb pb j → R j := by
  obtain ⟨nm, a0, k0, c0, a1, k1, c1, a2, k2, c2, sl, ar, t, rc, ros, hX, hA, hr⟩ := hR
  exact ⟨hX.keep, fun j hj => hA j (.inl hj)⟩
theorem rown_lt {I : AFr} {n rb mb pb nm : Nat} {ev hv wv : Value} {fr tg : Int} {sv : Nat → Value} {sl : Nat → List Nat} {rv : Value} {ros : List RV} {s : AS} {w1 wr : World} (h : RXf n rb mb pb nm ev hv wv fr tg sv sl rv ros s w1 wr) {j : Nat} (hj : ROwn rb mb pb sv rv ros j) : j < wr.heap.size ∧ (RXb rb mb pb j ∨ w1.heap.size ≤ j) := by
  have hl := h.lt
  have hz := h.big
  rcases hj with g | ⟨i, hi, g⟩ | g | g
  · exact ⟨by unfold RXb AXb at g; omega, .inl g⟩
  · have := (h.os i hi).block_lt j g; exact ⟨this.2, .inr this.1⟩
  · have := h.rnds.block_lt j g; exact ⟨this.2, .inr this.1⟩
  · have := h.told.lt g; exact ⟨this.2, .inr this.1⟩
theorem RAS.owned {R : Nat → Prop} {w0 : World} {n rb mb pb : Nat} {ev hv wv : Value} {fr tg : Int} {es : List Ed} {s : AS} {w1 wr : World} (hA : @RAS (AFr.but R w0) n rb mb pb ev hv wv fr tg es s w1 wr) (hk0 : Keep (RXb rb mb pb) w1 w0) : @RHeldS AFr.none (grown R w0 wr) n rb mb pb ev hv wv fr tg es s w1 wr ∧ Keep R w0 wr := by
  letI : AFr := AFr.but R w0
  obtain ⟨nm, a0, k0, c0, a1, k1, c1, a2, k2, c2, sl, ar, t, rc, ros, hX, hr⟩ := hA
  have hf := hX.nf
  have hk := hX.keep
  refine ⟨⟨nm, a0, k0, c0, a1, k1, c1, a2, k2, c2, sl, ar, t, rc, ros, hX.rebase (I2 := AFr.none) (Keep.refl (fun _ => False) wr) (fun _ _ e => e) rfl hk (AF.ofNone _ _), fun j hj => ?_, hr⟩, hk.os.trans hk0.os.symm, hk.tape.trans hk0.tape.symm, hk.output.trans hk0.output.symm, hf.1, fun j hj hn => (hf.2 j ⟨hj, hn⟩).2.1⟩
  have hjw := (rown_lt hX hj).1
  by_cases ha : R j
  · exact .inl ha
  · by_cases hw : j < w0.heap.size
    · exact absurd hj (hf.2 j ⟨hw, ha⟩).2.2
    · exact .inr ⟨by omega, hjw⟩
section
attribute [local instance] AFr.none
/-- a search of the document: rb the object, R what is its own, C what it reads besides -/
def RObj (n tg : Nat) (es : List Ed) (h : Nat → Int) (ws : List P2) (s : AS) (rb : Nat) (R C : Nat → Prop) (w : World) : Prop :=
  ∃ mb pb hc wk ec ha aw ae fr w1, AC n rb mb pb mb pb hc ws.length wk es.length ec ha aw ae h ws es w1 ∧ AInv n h s ∧ s.told.length ≤ ws.length ∧ (s.told.length < ws.length → ∃ r, ws[s.told.length]? = some r ∧ Left r h n tg s) ∧ @RHeldS AFr.none R n rb mb pb (.slice ae es.length ec) (.slice ha n hc) (.slice aw ws.length wk) fr (tg : Int) es s w1 w ∧ (∀ j, CB es ae ha aw j → C j) ∧ (∀ j, R j → j < w.heap.size) ∧ (∀ b o, ae = some ⟨b, o, none⟩ → es ≠ [] → ¬ RXb rb mb pb b)
section
variable {n tg : Nat} {es : List Ed} {h : Nat → Int} {ws : List P2} {s : AS} {rb : Nat} {R C : Nat → Prop} {w w' : World}
theorem RObj.lt (hO : RObj n tg es h ws s rb R C w) {j : Nat} (hj : R j) : j < w.heap.size := by
  obtain ⟨mb, pb, hc, wk, ec, ha, aw, ae, fr, w1, g1, g4, g5, g5b, g6, g7, g9, g10⟩ := hO
  exact g9 j hj
theorem RObj.inv (hO : RObj n tg es h ws s rb R C w) : AInv n h s ∧ s.told.length ≤ ws.length ∧ ws.length ≤ 8 ∧ 1 ≤ ws.length ∧ n ≤ 64 := by
  obtain ⟨mb, pb, hc, wk, ec, ha, aw, ae, fr, w1, g1, g4, g5, g5b, g6, g7, g9, g10⟩ := hO
  exact ⟨g4, g5, g1.wl.2.2, g1.wl.2.1, g1.hn.2⟩
theorem RObj.keep (hO : RObj n tg es h ws s rb R C w) {T : Nat → Prop} (kp : Keep T w w') (hT : ∀ j, R j ∨ C j → ¬ T j) : RObj n tg es h ws s rb R C w' := by
  obtain ⟨mb, pb, hc, wk, ec, ha, aw, ae, fr, w1, g1, g4, g5, g5b, g6, g7, g9, g10⟩ := hO
  obtain ⟨hk, hax⟩ := g6.keep
  have hz : w1.heap.size ≤ w'.heap.size := Nat.le_trans hk.size kp.size
  have hcs := cutW_size hz
  have hkc : Keep (fun j => RXb rb mb pb j ∨ ¬ C j) w1 (cutW w' w1.heap.size) := by
    refine ⟨(kp.os.trans hk.os), kp.tape.trans hk.tape, kp.output.trans hk.output, Nat.le_of_eq hcs.symm, fun j hj hn => ?_⟩
    have h1 : ¬ RXb rb mb pb j := fun e => hn (.inl e)
    have h2 : C j := Classical.byContradiction fun e => hn (.inr e)
    rw [cutW_block hz hj, kp.block j (Nat.lt_of_lt_of_le hj hk.size) (hT j (.inr h2)), hk.block j hj h1]
  refine ⟨mb, pb, hc, wk, ec, ha, aw, ae, fr, cutW w' w1.heap.size, g1.re hkc hcs (fun b o hb he => ⟨fun e => e.elim (g10 b o hb he) (fun e => e (g7 b (.inl ⟨he, o, hb⟩))), g10 b o hb he⟩) (fun b o hb e => e.elim (g1.hx b o hb) (fun e => e (g7 b (.inr (.inl ⟨o, hb⟩))))) (fun b o hb e => e.elim (g1.wx b o hb) (fun e => e (g7 b (.inr (.inr ⟨o, hb⟩))))), g4, g5, g5b, g6.rebase kp (fun j hj => hT j (.inl hj)) hcs (cutW_keep _ hz) (fun A' _ => AF.ofNone _ _), g7, fun j hj => Nat.lt_of_lt_of_le (g9 j hj) kp.size, g10⟩
/-- what its Over and its rounds read -/
theorem RObj.told (hO : RObj n tg es h ws s rb R C w) : ∃ ar aw rc wc base, w.cell? ⟨rb, 5, none⟩ = some (.slice aw ws.length wc) ∧ w.cell? ⟨rb, 12, none⟩ = some (.slice ar s.told.length rc) ∧ RoundsAt base w (.slice ar s.told.length rc) s.told := by
  obtain ⟨mb, pb, hc, wk, ec, ha, aw, ae, fr, w1, g1, g4, g5, g5b, g6, g7, g9, g10⟩ := hO
  obtain ⟨nm, a0, k0, c0, a1, k1, c1, a2, k2, c2, sl, ar, t, rc, ros, hX, hA, ht, hr⟩ := g6
  subst ht
  exact ⟨ar, aw, rc, wk, w1.heap.size, hX.c5, hX.c12, ros, hX.rnds, hX.told, fun j hj => (hX.apP j hj).1⟩
theorem astep_left {s' : AS} (hs : AStep ws es h n tg s s') : s'.told.length < ws.length → ∃ r, ws[s'.told.length]? = some r ∧ Left r h n tg s' := by
  obtain ⟨r, v, _, _, h3⟩ := hs
  exact settle_end h3
theorem robj_step (htg : tg < n) (htl : s.told.length < ws.length) (hO : RObj n tg es h ws s rb R C w) :
    Calls Tryz.prog 39 #[.pointer (some ⟨rb, 0, none⟩)] w fun e w' => e = .returned (.tuple #[]) ∧ ∃ s' : AS, AStep ws es h n tg s s' ∧ RObj n tg es h ws s' rb (grown R w w') C w' ∧ Keep R w w' := by
  obtain ⟨mb, pb, hc, wk, ec, ha, aw, ae, fr, w1, g1, g4, g5, g5b, g6, g7, g9, g10⟩ := hO
  obtain ⟨hk, hax⟩ := g6.keep
  obtain ⟨r, hr, v0, hv0, -⟩ := g5b htl
  have hH := (g6.rebase (I2 := AFr.but R w) (Keep.refl (fun _ => False) w) (fun _ _ e => e) rfl hk (fun A' hA' => AF.but w hA')).held
  refine (@rstep_any (AFr.but R w) n rb mb pb hc ws.length wk es.length ec ha aw ae fr h ws es s w1 w tg htg hH g1 g4 htl r v0 hr hv0).mono ?_
  rintro e w' ⟨rfl, s', k1, k2, k3, k4⟩
  obtain ⟨h1, h2⟩ := RAS.owned k2 hk
  refine ⟨rfl, s', k1, ⟨mb, pb, hc, wk, ec, ha, aw, ae, fr, w1, g1, k3, k4, astep_left k1, h1, g7, fun j hj => ?_, g10⟩, h2⟩
  rcases hj with hj | hj
  · exact Nat.lt_of_lt_of_le (g9 j hj) h2.size
  · exact hj.2
end
theorem rnew_obj {n v tg hc m wk el ec : Nat} {es : List Ed} {h : Nat → Int} {ws : List P2} {ha aw ae : Option Addr} {w0 w' : World} {e : Ending} (hm : ws.length = m) (hel : es.length = el) (hN : RNewAns n tg es h ws v hc m wk el ec ha aw ae w0 e w') : ∃ rb s' R, e = .returned (.pointer (some ⟨rb, 0, none⟩)) ∧ ASettle ws es h n tg (aStart h v) s' ∧ RObj n tg es h ws s' rb R (CB es ae ha aw) w' ∧ (∀ j, R j → w0.heap.size ≤ j) ∧ Below w0.heap.size w0 w' := by
  obtain ⟨rb, mb, pb, w1, s', rfl, hC, hst, hR, hin, htl, hBel, l1, l2⟩ := hN
  obtain ⟨nm, a0, k0, c0, a1, k1, c1, a2, k2, c2, sl, ar, t, rc, ros, hX, hr⟩ := hR
  subst hm
  subst hel
  refine ⟨rb, s', ROwn rb mb pb (sv3 (.slice a0 k0 c0) (.slice a1 k1 c1) (.slice a2 k2 c2)) (.slice ar t rc) ros, rfl, hst, ⟨mb, pb, hc, wk, ec, ha, aw, ae, _, w1, hC, hin, htl, settle_end hst, ⟨nm, a0, k0, c0, a1, k1, c1, a2, k2, c2, sl, ar, t, rc, ros, hX, fun j hj => hj, hr⟩, fun j hj => hj, fun j hj => (rown_lt hX hj).1, l2⟩, fun j hj => ?_, hBel w' hX.keep⟩
  rcases (rown_lt hX hj).2 with g | g
  · exact l1 j g
  · exact Nat.le_trans (hBel w1 (Keep.refl _ _)).size g
end
end Go.Proofs.YtccailcjclbhlaaGreat
