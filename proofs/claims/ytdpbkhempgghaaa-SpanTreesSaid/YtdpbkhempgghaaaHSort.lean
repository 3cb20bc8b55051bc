/-
  What heap.Sort returns: the pairs in order. Conditions: a bound on the length.
-/
import Derived.Test.YtdpbkhempgghaaaHeapN
import Derived.Test.YtdpbkhempgghaaaSortP
import Derived.Deep.LoopGhost
namespace Go.Proofs.Ytdpbkhempgghaaa
open Go.RowKit
set_option linter.unusedSimpArgs false
set_option linter.unusedVariables false
set_option maxRecDepth 100000 in
set_option maxHeartbeats 2000000 in
theorem sort_any (a : Option Addr) (cap m : Nat) (l : List P2) (hm : l.length = m) (w : World) (B : Nat) (hB : B ≤ w.heap.size) (hE : Row encP 2 w B a l) (hl : m ≤ 999999) :
    Calls Try.prog 51 #[.slice a m cap] w fun e w' => ∃ v, e = .returned v ∧ Own encP 2 88 w' w.heap.size v (sortP l) ∧ Below w.heap.size w w' := by
  replace hE := hide hE
  replace hm := hide hm
  go_enter Try.func51, Try.ntmps51
  go_wp2_with fail
  refine (new_any 102 w).mono ?_
  rintro e w1 ⟨rfl, hw1⟩
  have hH0 := HeapAt.fresh w (.func (.func 102) #[] #[]) (fun _ => ⟨0, 0⟩) 130
  rw [← hw1] at hH0
  have hb1 : Below w.heap.size w w1 := by rw [hw1]; exact (Below.refl _ _).alloc (Nat.le_refl _) _
  replace hH0 := hide hH0
  replace hb1 := hide hb1
  clear hw1
  go_wp2
  go_loopw [10] (fun s10 wr => ∃ (k c0 : Nat) (a0 : Option Addr) (f : Nat → P2), k ≤ m ∧ s10 = .int .i64 k ∧ Hid (HeapAt wr w.heap.size w.heap.size (.func (.func 102) #[] #[]) (.slice a0 k c0) k f) ∧ Hid (HeapOK popLt k f) ∧ Hid ((RW k f).Perm (l.take k)) ∧ Hid (Below w.heap.size w wr)) (fun s10 _ => m - (intOf s10).toNat)
  case atStart => exact ⟨0, 0, none, _, Nat.zero_le _, rfl, hH0, fun i h1 h2 => by omega, by simp [RW, Hid], hb1⟩
  case round =>
    obtain ⟨k, c0, a0, f, hk, rfl, hH, hok, hpm, hb⟩ := hrel
    clear hH0 hb1
    by_cases hlt : k < m
    · have hlt' : k < l.length := by have := hm.out; omega
      obtain ⟨b, o, rfl, hbB, e0, e1⟩ := hE.out.p2 k hlt'
      have e0 := cu_below hb.out e0 (by simp; omega)
      have e1 := cu_below hb.out e1 (by simp; omega)
      have hbl := cell_lt e0
      obtain ⟨p, hp⟩ : ∃ p, p = l[k] := ⟨_, rfl⟩
      rw [← hp] at e0 e1
      have htk := List.take_succ_eq_append_getElem hlt'
      rw [← hp] at htk
      replace hp := hide hp
      have ik : (0 : Int) ≤ (k : Int) ∧ (k : Int) < (m : Int) := by omega
      have hz := hb.out.size
      have hH2 := hide (hH.out.alloc (.cells #[.int .i64 p.a, .int .i64 p.b] 88))
      have hPush := hide (push_any w.heap.size w.heap.size k a0 c0 f p _ hH2.out (by omega))
      obtain ⟨q1, q2⟩ := push_ok popLt_ord hok.out p
      have q3 := q2.trans ((hpm.out.append_right [p]).trans (by rw [← htk]))
      have hblk := hide hH2.out.own.block_lt
      replace q1 := hide q1
      replace q3 := hide q3
      clear q2 htk
      generalize siftUp popLt (upz f k p) k = f3 at hPush q1 q3
      go_wp2_with fail
      refine hPush.out.mono ?_
      rintro e w2 ⟨rfl, gs, c, hA, hK, hg⟩
      have hb2 := hide (show Below w.heap.size w w2 from (up_alloc hb.out hz).trans (hK.toBelow (fun j hj => by
        rcases hj with rfl | hj
        · exact Nat.le_refl _
        · exact (hblk.out j hj).1) (by simp; omega)))
      replace hA := hide hA
      clear hK hg
      go_wp2
      go_roundw
      case rel => exact ⟨k + 1, c, _, f3, by omega, by go_num, hA, q1, q3, hb2⟩
      case measure => simp [intOf]; omega
    · obtain rfl : k = m := by omega
      have hall := hpm.out
      rw [List.take_of_length_le (by have := hm.out; omega)] at hall
      have hs0 := hide (sortP_unique hall)
      obtain ⟨wo, rfl⟩ : ∃ wo : World, wo = wr := ⟨_, rfl⟩
      have hz := hb.out.size
      have hgl := hH.out.lt
      have hab : ∀ b, (Value.slice a0 k c0).ownBlock = some b → b < wo.heap.size := fun b hb => (hH.out.own.block_lt b hb).2
      replace hab := hide hab
      replace hall := hide hall
      go_wp2
      go_loopg [6] k (fun gk s6 wr => ∃ (c1 j c2 : Nat) (a1 b1 : Option Addr) (f2 : Nat → P2) (out : List P2), s6 = .slice b1 j c2 ∧ j + gk = k ∧ Hid (out.length = j) ∧ Hid (HeapAt wr w.heap.size w.heap.size (.func (.func 102) #[] #[]) (.slice a1 gk c1) gk f2) ∧ Hid (HeapOK popLt gk f2) ∧ Hid (Own encP 2 88 wr wo.heap.size (.slice b1 j c2) out) ∧ Hid (out ++ sortP (RW gk f2) = sortP l) ∧ Hid (Below w.heap.size w wr) ∧ Hid (∀ b, (Value.slice a1 gk c1).ownBlock = some b → b < wo.heap.size) ∧ wo.heap.size ≤ wr.heap.size)
      case atStart => exact ⟨c0, 0, 0, a0, none, f, [], rfl, by omega, rfl, hH, hok, Own.nil _ _, by rw [hs0.out]; rfl, hb, hab, Nat.le_refl _⟩
      case round =>
        obtain ⟨c1, j, c2, a1, b1, f2, out, rfl, hjk, hol, hH2, hok2, hown, hso, hb2, hab2, hzr⟩ := hrel
        clear hH hok hpm hall hs0 hb
        have hc1 := hH2.out.c1
        rcases gk with _ | q
        · go_wp2_with fail
          refine (len_any _ _ _ _ _ hc1).mono ?_
          rintro e w5 ⟨rfl, rfl⟩
          have hfin : out = sortP l := by have := hso.out; simpa [RW, sortP] using this
          have hown2 := hide (hown.out.base_le hz)
          replace hfin := hide hfin
          go_wp2
          go_ret
          exact ⟨_, rfl, by rw [← hfin.out]; exact hown2.out, hb2.out⟩
        · obtain ⟨gs, rfl, hgs1, hgs2⟩ := hH2.out.own.blockI' (by omega)
          have hgs3 := hab2.out gs rfl
          have hq : (0 : Int) < ((q + 1 : Nat) : Int) := by omega
          have hPop := hide (pop_any w.heap.size w.heap.size q gs c1 f2 _ hH2.out (by omega))
          obtain ⟨p1, p2⟩ := pop_ok popLt_ord hok2.out
          have hle := sortP_least (p := f2 0) (l := RW q (siftDown popLt q (upz f2 0 (f2 q)) 0)) (fun x hx => by
            obtain ⟨i, hi, rfl⟩ := List.mem_map.1 (p2.mem_iff.1 (List.mem_cons_of_mem _ hx))
            exact heap_top popLt_ord hok2.out i (List.mem_range.1 hi))
          rw [sortP_unique p2] at hle
          have hso2 := hso.out
          rw [hle] at hso2
          replace hso2 := hide hso2
          replace p1 := hide p1
          clear hle p2 hso
          generalize siftDown popLt q (upz f2 0 (f2 q)) 0 = f3 at hPop p1 hso2
          obtain ⟨p, hp⟩ : ∃ p, p = f2 0 := ⟨_, rfl⟩
          rw [← hp] at hPop hso2
          replace hp := hide hp
          go_wp2_with fail
          refine (len_any _ _ _ _ _ hc1).mono ?_
          rintro e w5 ⟨rfl, rfl⟩
          go_wp2_with fail
          refine hPop.out.mono ?_
          rintro e w5 ⟨rfl, hA5, hK5⟩
          have hz5 := hK5.size
          have hown5 := hide (hK5.own hown.out (fun b hb hS => by have := (hown.out.block_lt b hb).1; rcases hS with rfl | rfl <;> omega))
          have hb5 := hide (hb2.out.trans ((hK5.toBelow (fun b hb => by rcases hb with rfl | rfl; exact Nat.le_refl _; exact hgs1) (by omega))))
          replace hA5 := hide hA5
          clear hPop hK5 hc1 hown hb2
          go_wp2_with (at_builtin; (refine wpList_push (e := 88) (enc := encP) (xs := out) (v := .slice b1 (j) c2) (base := wo.heap.size) rfl (.tmp 21) (.tmp 24) 82 rfl _ 16 Try.underlying82 info_pop rfl ?d13 lenP oneP (j) ?d23 ?d33 ?d43 ⟨w5.heap.size, 0, none⟩ 1 p ?d53 ?d63 ?d73 ?d83 ?d93 ?_); (case d13 => omega); (case d23 => exact hol.out); (case d33 => rfl); (case d43 => exact (hown5.out.alloc _)); (case d53 => rfl); (case d63 => exact newP _ _ _ _ rfl); (case d73 => omega); (case d83 => unfold maxLen; omega); (case d93 => first | omega | (simp; done) | (simp; omega)); intro g3 c3 w3 own3 hb3 hgr3 hg3 hgl3; have hKg := ((Keep.refl (fun b => (Value.slice b1 j c2).ownBlock = some b) w5).alloc (.cells #[.int .i64 p.a, .int .i64 p.b] 88)).grown hgr3 (fun b hb => .inl hb); have hA6 := hide (hA5.out.keep hKg (fun hb => by have := (hown5.out.block_lt _ hb).1; omega) (fun b hb hb' => by have h1 := (hown5.out.block_lt _ hb').1; simp [Value.ownBlock] at hb; omega)); have hB6 := hide (unalloc hb3 (by omega)); replace own3 := hide own3; replace hb3 := hide hb3; replace hgr3 := hide hgr3; replace hKg := hide hKg)
          go_roundg q
          case measure => omega
          case rel => exact ⟨c1, j + 1, c3, _, _, f3, out ++ [p], rfl, by omega, hide (by simp [hol.out]), hA6, p1, own3, hide (by rw [List.append_assoc]; exact hso2.out), hide (hb5.out.trans (hB6.out.mono hz)), hide (fun b hb => by simp [Value.ownBlock] at hb; omega), by have := hB6.out.size; omega⟩
end Go.Proofs.Ytdpbkhempgghaaa
