/-
  What walk.Cut returns. Conditions: the slice reads.
-/
import Derived.Test.YtdpbkhempgghaaaCutP
import Derived.Test.YtdpbkhempgghaaaIMap
import Derived.Test.YtdpbkhempgghaaaEdge
import Derived.Deep.LoopGhost
import Derived.LoopTactic
namespace Go.Proofs.Ytdpbkhempgghaaa
open Go.RowKit Go.Maps
set_option linter.unusedSimpArgs false
set_option linter.unusedVariables false
/-- what the map holds behind k rounds -/
def lastM (l : List Int) (k : Nat) (x : Int) : Option Int := if x ∈ l.take k then some (lastB l x k : Int) else none
theorem lastM_step {l : List Int} {k : Nat} (h : k < l.length) : setM (lastM l k) l[k] (k : Int) = lastM l (k + 1) := by
  funext x
  have hg : l.getD k 0 = l[k] := by simp [List.getD, List.getElem?_eq_getElem h]
  unfold setM lastM
  rw [List.take_succ_eq_append_getElem h]
  by_cases e : x = l[k]
  · subst e
    rw [if_pos rfl, if_pos (List.mem_append_right _ (List.mem_singleton.2 rfl)), lastB, if_pos hg]
  · rw [if_neg e]
    have hs : lastB l x (k + 1) = lastB l x k := by
      show (if l.getD k 0 = x then k else lastB l x k) = _
      rw [hg, if_neg (fun h => e h.symm)]
    rw [hs]
    by_cases hx : x ∈ l.take k
    · rw [if_pos hx, if_pos (List.mem_append_left _ hx)]
    · rw [if_neg hx, if_neg (fun h => by
        rcases List.mem_append.1 h with h | h
        · exact hx h
        · exact e (List.mem_singleton.1 h))]
theorem cut_none (a : Option Addr) (cap : Nat) (w : World) : Calls Try.prog 14 #[.slice a 0 cap] w fun e w' => e = .returned (.tuple #[.slice none 0 0, .int .i64 1]) ∧ Below w.heap.size w w' := by
  go_enter Try.func14, Try.ntmps14
  go_wp2
  go_ret2
  exact ⟨rfl, Below.refl _ _⟩
theorem cut_large (a : Option Addr) (m cap : Nat) (w : World) (hm : 100 < m) : Calls Try.prog 14 #[.slice a m cap] w fun e w' => e = .returned (.tuple #[.slice none 0 0, .int .i64 2]) ∧ Below w.heap.size w w' := by
  have q0 : ((m : Int) == 0) = false := by simp; omega
  go_enter Try.func14, Try.ntmps14
  go_wp2
  go_ret2
  exact ⟨rfl, Below.refl _ _⟩
def CutAns (l : List Int) (w : World) (e : Ending) (w' : World) : Prop := ∃ v, e = .returned (.tuple #[v, .int .i64 0]) ∧ Own encI 1 3 w' w.heap.size v (cutQ l.length l) ∧ Below w.heap.size w w'
set_option maxRecDepth 100000 in
set_option maxHeartbeats 1000000 in
theorem cut_ok (a : Option Addr) (m cap : Nat) (l : List Int) (hm : l.length = m) (w : World) (B : Nat) (hB : B ≤ w.heap.size) (hE : Row encI 1 w B a l) (hb : ∀ x ∈ l, Bd x) (h0 : 0 < m) (h1 : m ≤ 100) : Calls Try.prog 14 #[.slice a m cap] w (CutAns l w) := by
  have q0 : ((m : Int) == 0) = false := by simp; omega
  have hmm := @run_makeMap Try.prog
  replace hm := hide hm
  replace hE := hide hE
  replace hb := hide hb
  have hcell := hide (show ∀ k, k < m → ∃ b o x, a = some ⟨b, o, none⟩ ∧ b < B ∧ w.cell? ⟨b, o + k, none⟩ = some (.int .i64 x) ∧ Bd x ∧ l.getD k 0 = x ∧ setM (lastM l k) x (k : Int) = lastM l (k + 1) from fun k hk => by
    have hk' : k < l.length := by have := hm.out; omega
    obtain ⟨b, o, e1, e2, e3⟩ := hE.out.int k hk'
    exact ⟨b, o, l[k], e1, e2, e3, hb.out _ (List.getElem_mem hk'), by simp [List.getD, List.getElem?_eq_getElem hk'], lastM_step hk'⟩)
  go_enter Try.func14, Try.ntmps14
  go_wp2
  obtain ⟨w0, hw0⟩ : ∃ w0, w0 = w.alloc (.map #[] 0) := ⟨_, rfl⟩
  have hM0 := hide (show IMap w0 w.heap.size 0 (lastM l 0) by rw [hw0, show lastM l 0 = (fun _ => none) from by funext x; simp [lastM]]; exact IMap.made w)
  have hb0 := hide (show Below w.heap.size w w0 by rw [hw0]; exact up_alloc (Below.refl _ _) (Nat.le_refl _))
  simp only [← hw0]
  replace hw0 := hide hw0
  go_loopw [5, 6, 18] (fun _ _ i wr => ∃ k : Nat, k ≤ m ∧ i = .int .i64 k ∧ Hid (IMap wr w.heap.size k (lastM l k)) ∧ Hid (Below w.heap.size w wr)) (fun _ _ i _ => m - (intOf i).toNat)
  case atStart => exact ⟨0, Nat.zero_le _, rfl, hM0, hb0⟩
  case round =>
    clear hM0 hb0
    obtain ⟨k, hk, rfl, hM, hbr⟩ := hrel
    by_cases hlt : k < m
    · obtain ⟨b, o, x, rfl, hb1, e1, hx, _, hs⟩ := hcell.out k hlt
      have e1 := cu_below hbr.out e1 (by simp; omega)
      have hbl := cell_lt e1
      have ik : (0 : Int) ≤ (k : Int) ∧ (k : Int) < (m : Int) := by omega
      replace hs := hide hs
      replace hx := hide hx
      go_wp2_with (at_mapUpdate; (refine wpList_imap_put rfl (.tmp 23) (.tmp 24) (.tmp 25) 94 rfl Try.underlying94 hM.out (by omega) x (k : Int) hx.out ?d1 rfl rfl rfl ?_); (case d1 => unfold Bd; omega); intro w1 hM1 hg1; rw [hs.out] at hM1; have hb2 := hide (hbr.out.grown hg1 hbr.out.size (fun j hj => by cases hj; exact Nat.le_refl _)); replace hM1 := hide hM1; replace hg1 := hide hg1)
      go_roundw
      case rel => exact ⟨k + 1, by omega, by go_num, hM1, hb2⟩
      case measure => simp [intOf]; omega
    · obtain rfl : m = k := by omega
      obtain ⟨wo, rfl⟩ : ∃ wo : World, wo = wr := ⟨_, rfl⟩
      have hzo := hbr.out.size
      have hml := hM.out.lt
      go_wp2
      go_loopw [7, 8] (fun s7 s8 wr => ∃ (k p f : Nat) (av : Option Addr) (cv : Nat) (out : List Int), k ≤ m ∧ p ≤ k ∧ m ≤ k + f ∧ s8 = .int .i64 k ∧ s7 = .slice av p cv ∧ Hid (out.length = p) ∧ Hid (Own encI 1 3 wr wo.heap.size (.slice av p cv) out) ∧ Hid (out ++ cutQ f (l.drop k) = cutQ m l) ∧ Hid (Below wo.heap.size wo wr)) (fun _ s8 _ => m - (intOf s8).toNat)
      case atStart => exact ⟨0, 0, m, none, 0, [], Nat.zero_le _, Nat.le_refl _, by omega, rfl, rfl, hide rfl, hide (Own.nil _ _), hide (by simp), hide (Below.refl _ _)⟩
      case round =>
        obtain ⟨k, p, f, av, cv, out, hk, hp, hf, rfl, rfl, hol, own, hc, hbx⟩ := hrel
        have hzx := hbx.out.size
        have hM1 := hide (hM.out.stays hbx.out)
        by_cases hlt : k < m
        · obtain ⟨b, o, x, rfl, hb1, e1, hx, hgx, _⟩ := hcell.out k hlt
          have e1 := cu_below (hbr.out.trans (hbx.out.mono hzo)) e1 (by simp; omega)
          have hbl := cell_lt e1
          obtain ⟨f', rfl⟩ : ∃ f', f = f' + 1 := ⟨f - 1, by omega⟩
          obtain ⟨z1, z2⟩ := lastB_at hgx m hlt
          have z3 := lastB_lt l x m h0
          have hcq := cutQ_at (n := f') (l := l) (i := k) (by rw [hm.out]; exact hlt)
          rw [hgx, hm.out] at hcq
          have hin : lastM l m x = some ((lastB l x m : Nat) : Int) := by
            unfold lastM
            rw [if_pos]
            rw [List.take_of_length_le (by rw [hm.out]; exact Nat.le_refl _), ← hgx]
            have hk' : k < l.length := by rw [hm.out]; exact hlt
            rw [List.getD, List.getElem?_eq_getElem hk']
            exact List.getElem_mem hk'
          generalize lastB l x m = q at z1 z2 z3 hcq hin
          have hcn := hide (show (out ++ [x]) ++ cutQ f' (l.drop (q + 1)) = cutQ m l by rw [← hc.out, hcq]; simp)
          have hvl := hide (show (lastM l m x).getD 0 = (q : Int) by rw [hin]; rfl)
          have ik : (0 : Int) ≤ (k : Int) ∧ (k : Int) < (m : Int) := by omega
          have hbw : b < w.heap.size := by omega
          replace hx := hide hx
          clear z1 hcq hin hgx hc
          go_wp2_with (first
            | (at_builtin; (refine wpList_push (e := 3) (enc := encI) (xs := out) (v := .slice av (p) cv) (base := wo.heap.size) rfl (.tmp 38) (.tmp 43) 22 rfl _ 8 Try.underlying22 info_int rfl ?d11 lenI oneI (p) ?d21 ?d31 ?d41 ⟨wr.heap.size, 0, none⟩ 1 x ?d51 ?d61 ?d71 ?d81 ?d91 ?_); (case d11 => omega); (case d21 => exact hol.out); (case d31 => rfl); (case d41 => exact (own.out.alloc _)); (case d51 => rfl); (case d61 => exact newI _ _ _ _ rfl); (case d71 => omega); (case d81 => unfold maxLen; omega); (case d91 => first | omega | (simp; done) | (simp; omega)); intro g1 c1 w1 own1 hb1 hgr1 hg1 hgl1; have e3 := hgr1.cell (a := ⟨b, o + k, none⟩) (cu_alloc e1) (fun e => by have := own.out.block_lt _ e.symm; simp at this; omega); have hbl3 := cell_lt e3; have hB1 := hide (unalloc hb1 (by omega)); have hM2 := hide ((hM1.out.alloc (.cells #[.int .i64 x] 3)).kept hgr1 (fun e => by have := own.out.block_lt _ e.symm; omega)); replace own1 := hide own1; replace hb1 := hide hb1; replace hgr1 := hide hgr1)
            | (at_lookup; (refine wpList_imap_look rfl (.tmp 31) (.tmp 35) 94 rfl Try.underlying94 hM2.out x hx.out rfl rfl ?_); simp only [hvl.out]))
          go_roundw
          case rel => exact ⟨q + 1, p + 1, f', _, _, out ++ [x], by omega, by omega, by omega, by go_num, rfl, hide (by simp [hol.out]), own1, hcn, hide (hbx.out.trans hB1.out)⟩
          case measure => simp [intOf]; omega
        · obtain rfl : k = m := by omega
          have hfin := hc.out
          rw [List.drop_of_length_le (by have := hm.out; omega), cutQ_nil, List.append_nil] at hfin
          have hO := hide (own.out.base_le (base' := w.heap.size) hzo)
          rw [hfin] at hO
          have hBF := hide (hbr.out.trans (hbx.out.mono hzo))
          have hmm2 := hm.out
          clear own hc hM1 hM
          go_wp2
          go_ret2
          exact ⟨_, rfl, by rw [hmm2]; exact hO.out, hBF.out⟩
end Go.Proofs.Ytdpbkhempgghaaa
