/-
  What heap.Least returns: the least n, in order. Conditions: a bound on the length.
-/
import Derived.Test.YtdpbkhempgghaaaHSort
import Derived.Test.YtdpbkhempgghaaaHeapPushG
import Derived.Test.YtdpbkhempgghaaaHeapPopG
namespace Go.Proofs.Ytdpbkhempgghaaa
open Go.RowKit
set_option linter.unusedSimpArgs false
set_option linter.unusedVariables false
/-- the n first: n may be any number from 0 on -/
def firstN (n : Int) (l : List P2) : List P2 := l.take n.toNat
theorem least_push {n q : Nat} {f f' : Nat → P2} {l : List P2} {x : P2} (h : (RW q f).Perm ((sortP l).take n)) (hp : (RW (q + 1) f').Perm (RW q f ++ [x])) : sortP (RW (q + 1) f') = insP x ((sortP l).take n) := by
  rw [sortP_unique hp, sortP_snoc, sortP_unique h]
  congr 1
  exact sortP_self (by
    have := (sortP_ok l).2
    exact List.Pairwise.sublist (List.take_sublist _ _) this)
theorem least_fits {n q : Nat} {f f' : Nat → P2} {l : List P2} {x : P2} (h : (RW q f).Perm ((sortP l).take n)) (hp : (RW (q + 1) f').Perm (RW q f ++ [x])) (hq : q + 1 ≤ n) : (RW (q + 1) f').Perm ((sortP (l ++ [x])).take n) := by
  have h1 := least_push h hp
  have h2 : (insP x ((sortP l).take n)).take n = (sortP (l ++ [x])).take n := by rw [ins_take, sortP_snoc]
  have h3 : (insP x ((sortP l).take n)).length ≤ n := by
    rw [insP_len]
    have := h.length_eq
    rw [rw_len] at this
    omega
  rw [List.take_of_length_le h3] at h2
  rw [← h2, ← h1]
  exact (sortP_ok _).1.symm
theorem least_drops {n : Nat} {f f' f'' : Nat → P2} {l : List P2} {x t : P2} (h : (RW n f).Perm ((sortP l).take n)) (hp : (RW (n + 1) f').Perm (RW n f ++ [x])) (hd : (t :: RW n f'').Perm (RW (n + 1) f')) (ht : ∀ q ∈ RW n f'', popLt t q = false) : (RW n f'').Perm ((sortP (l ++ [x])).take n) := by
  have h1 := least_push h hp
  have h2 := greatest_last (sortP_ok (RW (n + 1) f')).2 (hd.trans (sortP_ok _).1.symm) ht
  rw [rw_len, h1, ins_take, ← sortP_snoc] at h2
  exact h2
theorem least_bad (a : Option Addr) (cap m : Nat) (n : Int) (hn : n < 0) (w : World) :
    Calls Try.prog 49 #[.slice a m cap, .int .i64 n] w fun e w' => e = .returned (.tuple #[.slice none 0 0, .int .i64 1]) ∧ Below w.heap.size w w' := by
  go_enter Try.func49, Try.ntmps49
  go_wp2
  go_ret2
  exact ⟨rfl, Below.refl _ _⟩
def LeastAns (n : Int) (l : List P2) (w : World) (e : Ending) (w' : World) : Prop := ∃ v, e = .returned (.tuple #[v, .int .i64 0]) ∧ Own encP 2 88 w' w.heap.size v (firstN n (sortP l)) ∧ Below w.heap.size w w'
set_option maxRecDepth 100000 in
set_option maxHeartbeats 1000000 in
theorem least_ok (a : Option Addr) (cap m : Nat) (l : List P2) (hm : l.length = m) (n : Int) (hn : 0 ≤ n) (w : World) (B : Nat) (hB : B ≤ w.heap.size) (hE : Row encP 2 w B a l) (hl : m ≤ 999999) :
    Calls Try.prog 49 #[.slice a m cap, .int .i64 n] w (LeastAns n l w) := by
  replace hE := hide hE
  replace hm := hide hm
  go_enter Try.func49, Try.ntmps49
  go_wp2_with fail
  refine (new_any 101 w).mono ?_
  rintro e w1 ⟨rfl, hw1⟩
  have hH0 := HeapAt.fresh w (.func (.func 101) #[] #[]) (fun _ => ⟨0, 0⟩) 130
  rw [← hw1] at hH0
  have hb1 : Below w.heap.size w w1 := by rw [hw1]; exact (Below.refl _ _).alloc (Nat.le_refl _) _
  replace hH0 := hide hH0
  replace hb1 := hide hb1
  clear hw1
  go_wp2
  go_loopw [14] (fun s10 wr => ∃ (k q c0 : Nat) (a0 : Option Addr) (f : Nat → P2), k ≤ m ∧ q ≤ k ∧ (q : Int) ≤ n ∧ s10 = .int .i64 k ∧ Hid (HeapAt wr w.heap.size w.heap.size (.func (.func 101) #[] #[]) (.slice a0 q c0) q f) ∧ Hid (HeapOK popGt q f) ∧ Hid ((RW q f).Perm (firstN n (sortP (l.take k)))) ∧ Hid (Below w.heap.size w wr)) (fun s10 _ => m - (intOf s10).toNat)
  case atStart => exact ⟨0, 0, 0, none, _, Nat.zero_le _, Nat.le_refl _, hn, rfl, hH0, fun i h1 h2 => by omega, by simp [RW, Hid, firstN, sortP], hb1⟩
  case round =>
    obtain ⟨k, q, c0, a0, f, hk, hqk, hqn, rfl, hH, hok, hpm, hb⟩ := hrel
    clear hH0 hb1
    by_cases hlt : k < m
    · have hlt' : k < l.length := by have := hm.out; omega
      obtain ⟨b, o, rfl, hbB, e0, e1⟩ := hE.out.p2 k hlt'
      have e0 := cu_below hb.out e0 (by simp; omega)
      have e1 := cu_below hb.out e1 (by simp; omega)
      have hbl := cell_lt e0
      obtain ⟨p, hp⟩ : ∃ p, p = l[k] := ⟨_, rfl⟩
      rw [← hp] at e0 e1
      have htk := List.take_succ_eq_append_getElem hlt'
      rw [← hp] at htk
      replace hp := hide hp
      replace htk := hide htk
      have ik : (0 : Int) ≤ (k : Int) ∧ (k : Int) < (m : Int) := by omega
      have hz := hb.out.size
      have hH2 := hide (hH.out.alloc (.cells #[.int .i64 p.a, .int .i64 p.b] 88))
      have hPush := hide (pushG_any w.heap.size w.heap.size q a0 c0 f p _ hH2.out (by omega))
      obtain ⟨q1, q2⟩ := push_ok popGt_ord hok.out p
      have hblk := hide hH2.out.own.block_lt
      replace q1 := hide q1
      replace q2 := hide q2
      generalize siftUp popGt (upz f q p) q = f3 at hPush q1 q2
      go_wp2_with fail
      refine hPush.out.mono ?_
      rintro e w2 ⟨rfl, gs, c, hA, hK, hg⟩
      have hb2 := hide (show Below w.heap.size w w2 from (up_alloc hb.out hz).trans (hK.toBelow (fun j hj => by
        rcases hj with rfl | hj
        · exact Nat.le_refl _
        · exact (hblk.out j hj).1) (by simp; omega)))
      have hgs := hA.own.at_base
      have hc1 := hA.c1
      replace hA := hide hA
      clear hK hg
      go_wp2_with fail
      refine (len_any _ _ _ _ _ hc1).mono ?_
      rintro e w5 ⟨rfl, rfl⟩
      by_cases hov : n < (q : Int) + 1
      · obtain rfl : n = (q : Int) := by omega
        have hPop := hide (popG_any w.heap.size w.heap.size q gs c f3 _ hA.out (by omega))
        obtain ⟨p1, p2⟩ := pop_ok popGt_ord q1.out
        have hle := hide (least_drops (l := l.take k) (x := p) (by have := hpm.out; simpa [firstN] using this) q2.out p2 (fun x hx => by
            obtain ⟨i, hi, rfl⟩ := List.mem_map.1 (p2.mem_iff.1 (List.mem_cons_of_mem _ hx))
            exact heap_top popGt_ord q1.out i (List.mem_range.1 hi)))
        replace p1 := hide p1
        generalize siftDown popGt q (upz f3 0 (f3 q)) 0 = f4 at hPop p1 hle p2
        clear p2
        go_wp2_with fail
        refine hPop.out.mono ?_
        rintro e w6 ⟨rfl, hA6, hK6⟩
        have hb6 := hide (hb2.out.trans ((hK6.toBelow (B := w.heap.size) (fun b hb => by rcases hb with rfl | rfl; exact Nat.le_refl _; exact hgs.1) (by omega))))
        replace hA6 := hide hA6
        clear hPop hK6
        go_wp2
        go_roundw
        case rel => exact ⟨k + 1, q, c, _, f4, by omega, by omega, by omega, by go_num, hA6, p1, hide (by rw [htk.out]; simpa [firstN] using hle.out), hb6⟩
        case measure => simp [intOf]; omega
      · have hfit := hide (least_fits (n := n.toNat) (l := l.take k) (x := p) hpm.out q2.out (by omega))
        go_wp2
        go_roundw
        case rel => exact ⟨k + 1, q + 1, c, _, f3, by omega, by omega, by omega, by go_num, hA, q1, hide (by rw [htk.out]; exact hfit.out), hb2⟩
        case measure => simp [intOf]; omega
    · obtain rfl : k = m := by omega
      have hall := hpm.out
      rw [List.take_of_length_le (by have := hm.out; omega)] at hall
      have hs0 := hide (sortP_unique hall)
      have hsf : sortP (firstN n (sortP l)) = firstN n (sortP l) := sortP_self (List.Pairwise.sublist (List.take_sublist _ _) (sortP_ok l).2)
      rw [hsf] at hs0
      replace hsf := hide hsf
      have hc1 := hH.out.c1
      have hgl := hH.out.lt
      have hrow : Row encP 2 wr wr.heap.size a0 (RW q f) := by
        obtain ⟨a', c', hv, hr, _⟩ := hH.out.own.row lenP
        injection hv with g1 g2 g3
        subst g1
        exact hr
      have hS := hide (sort_any a0 c0 q (RW q f) (rw_len q f) wr wr.heap.size (Nat.le_refl _) hrow (by omega))
      clear hrow hall
      have hz := hb.out.size
      go_wp2_with fail
      refine hS.out.mono ?_
      rintro e w7 ⟨v, rfl, hown, hb7⟩
      rw [hs0.out] at hown
      replace hown := hide hown
      have hb8 := hide (hb.out.trans (hb7.mono hz))
      clear hb7
      go_wp2
      go_ret2
      exact ⟨v, rfl, hown.out.base_le hz, hb8.out⟩
end Go.Proofs.Ytdpbkhempgghaaa
