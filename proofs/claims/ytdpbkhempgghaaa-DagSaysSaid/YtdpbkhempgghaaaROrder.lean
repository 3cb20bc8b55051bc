/-
  What the reference's Order returns: the order, or that there is a cycle. Conditions: a right net.
-/
import Derived.Test.YtdpbkhempgghaaaOrdD
import Derived.Test.YtdpbkhempgghaaaWEdge
import Derived.Test.YtdpbkhempgghaaaDijkO
namespace Go.Proofs.Ytdpbkhempgghaaa
open Go.RowKit
set_option linter.unusedSimpArgs false
set_option linter.unusedVariables false
theorem minE_ld {n : Nat} {es : List Ed} (hes : Right n es) (a b : Nat) : decide (minE (a : Int) (b : Int) es < 1099511627776) = ldE (nes es) a b := by
  have key : ∀ es : List Ed, (∀ e ∈ es, 0 ≤ e.u ∧ 0 ≤ e.v ∧ e.c ≤ 10000) → decide (minE (a : Int) (b : Int) es < 1099511627776) = ldE (nes es) a b := by
    intro es hes
    have ih : ∀ k, k ≤ es.length → decide (minE (a : Int) (b : Int) (es.take k) < 1099511627776) = ldE (nes (es.take k)) a b := by
      intro k
      induction k with
      | zero => intro _; simp [minE_nil, ldE, nes]
      | succ k ihk =>
        intro hk
        have hk' : k < es.length := by omega
        have h0 := ihk (by omega)
        obtain ⟨h1, h2, h3⟩ := hes _ (List.getElem_mem hk')
        have hn : nes (es.take (k + 1)) = nes (es.take k) ++ [⟨es[k].u.toNat, es[k].v.toNat, es[k].c⟩] := nes_take es k hk'
        rw [hn]
        unfold ldE at h0 ⊢
        rw [List.any_append, ← h0]
        by_cases hm : es[k].u = (a : Int) ∧ es[k].v = (b : Int)
        · rw [minE_hit hk' hm.1 hm.2]
          have : min (minE (a : Int) (b : Int) (es.take k)) es[k].c < 1099511627776 := by omega
          simp [this, hm.1, hm.2]
        · rw [minE_miss hk' hm]
          have : ¬ (es[k].u.toNat = a ∧ es[k].v.toNat = b) := fun h => hm ⟨by omega, by omega⟩
          simp [this]
    have := ih es.length (Nat.le_refl _)
    rwa [List.take_length] at this
  exact key es (fun e he => by have := hes e he; omega)
theorem order1_any (n a b bg cap : Nat) (an : Option Addr) (es : List Ed) (w : World) (B : Nat) (hB : B ≤ w.heap.size) (hE : Row encE 3 w B an es) (hl : es.length ≤ 600) (hes : Right n es) (k0 : w.cell? ⟨bg, 0, none⟩ = some (.int .i64 (n : Int))) (k1 : w.cell? ⟨bg, 1, none⟩ = some (.slice an es.length cap)) :
    Calls Try.prog 96 #[.int .i64 (a : Int), .int .i64 (b : Int), .pointer (some ⟨bg, 0, none⟩)] w fun e w' => e = .returned (.bool (ldE (nes es) a b)) ∧ Below w.heap.size w w' := by
  have hz := cell_lt k0
  have hm := hide (minE_ld hes a b)
  have hC := hide (redge_any (n : Int) an cap es (a : Int) (b : Int) w B hB hE hl _ rfl)
  generalize minE (a : Int) (b : Int) es = x at hm hC
  clear hE hes
  go_enter Try.func96, Try.ntmps96
  go_wp2_with fail
  refine hC.out.mono ?_
  rintro e w1 ⟨rfl, hb1⟩
  go_wp2
  go_ret
  exact ⟨ret_bool hm.out, hb1⟩
theorem leadsD_of (n bg cap : Nat) (an : Option Addr) (es : List Ed) (w : World) (B : Nat) (hB : B ≤ w.heap.size) (hE : Row encE 3 w B an es) (hl : es.length ≤ 600) (hes : Right n es) (k0 : w.cell? ⟨bg, 0, none⟩ = some (.int .i64 (n : Int))) (k1 : w.cell? ⟨bg, 1, none⟩ = some (.slice an es.length cap)) : LeadsD bg n (ldE (nes es)) w :=
  fun a b w' _ _ hb => order1_any n a b bg cap an es w' B (Nat.le_trans hB hb.size) (hE.below hb hB) hl hes (cu_below hb k0 (cell_lt k0)) (cu_below hb k1 (cell_lt k1))
/-- the order of a net, or that there is none -/
def kahnE (n : Nat) (es : List Ed) : List Nat := kahnG (ldE (nes es)) n (List.range n)
theorem kahnE_len (n : Nat) (es : List Ed) : (kahnE n es).length ≤ n := by
  have := kahnG_len (ldE (nes es)) n (List.range n)
  rw [List.length_range] at this
  exact this
def OrderAns (n : Nat) (es : List Ed) (w : World) (e : Ending) (w' : World) : Prop := Below w.heap.size w w' ∧ (((kahnE n es).length < n ∧ e = .returned (.tuple #[.slice none 0 0, .int .i64 6])) ∨ ((kahnE n es).length = n ∧ ∃ v, e = .returned (.tuple #[v, .int .i64 0]) ∧ Own encI 1 3 w' w.heap.size v (LN (kahnE n es))))
set_option maxRecDepth 100000 in
set_option maxHeartbeats 1000000 in
theorem rorder_any (n cap : Nat) (an : Option Addr) (es : List Ed) (w : World) (B : Nat) (hB : B ≤ w.heap.size) (hE : Row encE 3 w B an es) (hn : n ≤ 64) (hl : es.length ≤ 600) (hes : Right n es) :
    Calls Try.prog 46 #[.agg #[.int .i64 (n : Int), .slice an es.length cap]] w (OrderAns n es w) := by
  replace hE := hide hE
  replace hes := hide hes
  go_enter Try.func46, Try.ntmps46
  go_wp2
  obtain ⟨w0, h0⟩ : ∃ w0, w0 = w.alloc (.cells #[.int .i64 (n : Int), .slice an es.length cap] 32) := ⟨_, rfl⟩
  have hb0 := hide (show Below w.heap.size w w0 by rw [h0]; exact up_alloc (Below.refl _ _) (Nat.le_refl _))
  have c0 : w0.cell? ⟨w.heap.size, 0, none⟩ = some (.int .i64 (n : Int)) := by rw [h0]; simp [go_sem]
  have c1 : w0.cell? ⟨w.heap.size, 1, none⟩ = some (.slice an es.length cap) := by rw [h0]; simp [go_sem]
  have hz0 : w.heap.size < w0.heap.size := cell_lt c0
  simp only [← h0]
  replace h0 := hide h0
  go_loopw [4, 5, 9] (fun s4 _ i wr => ∃ (k : Nat) (av : Option Addr) (cv : Nat), k ≤ n ∧ i = .int .i64 k ∧ s4 = .slice av k cv ∧ Hid (Own encI 1 3 wr w0.heap.size (.slice av k cv) (LN (List.range k))) ∧ Hid (Below w0.heap.size w0 wr)) (fun _ _ i _ => n - (intOf i).toNat)
  case atStart => exact ⟨0, none, 0, Nat.zero_le _, rfl, rfl, hide (Own.nil _ _), hide (Below.refl _ _)⟩
  case round =>
    obtain ⟨k, av, cv, hk, rfl, rfl, own, hbr⟩ := hrel
    have hzr := hbr.out.size
    have k0 := cu_below hbr.out c0 (by simpa using hz0)
    have k1 := cu_below hbr.out c1 (by simpa using hz0)
    have hzw : w.heap.size < wr.heap.size := by omega
    by_cases hlt : k < n
    · have hs := hide (show LN (List.range (k + 1)) = LN (List.range k) ++ [(k : Int)] by simp [LN, List.range_succ])
      have hll := hide (show (LN (List.range k)).length = k by simp [LN])
      go_wp2_with (at_builtin; (refine wpList_push (e := 3) (enc := encI) (xs := (LN (List.range k))) (v := .slice av (k) cv) (base := w0.heap.size) rfl (.tmp 12) (.tmp 14) 22 rfl _ 8 Try.underlying22 info_int rfl ?d11 lenI oneI (k) ?d21 ?d31 ?d41 ⟨wr.heap.size, 0, none⟩ 1 (k : Int) ?d51 ?d61 ?d71 ?d81 ?d91 ?_); (case d11 => omega); (case d21 => exact hll.out); (case d31 => rfl); (case d41 => exact (own.out.alloc _)); (case d51 => rfl); (case d61 => exact newI _ _ _ _ rfl); (case d71 => omega); (case d81 => unfold maxLen; omega); (case d91 => first | omega | (simp; done) | (simp; omega)); intro g1 c1 w1 own1 hb1 hgr1 hg1 hgl1; have hB1 := hide (unalloc hb1 (by omega)); replace own1 := hide own1; replace hb1 := hide hb1; replace hgr1 := hide hgr1)
      go_roundw
      case rel => exact ⟨k + 1, _, _, by omega, by go_num, rfl, hide (by rw [hs.out]; exact own1.out), hide (hbr.out.trans hB1.out)⟩
      case measure => simp [intOf]; omega
    · obtain rfl : n = k := by omega
      have hbw := hide (hb0.out.trans (hbr.out.mono (by omega)))
      have hL := leadsD_of n w.heap.size cap an es wr B (by omega) (hE.out.below hbw.out hB) hl hes.out k0 k1
      obtain ⟨a', c', hv', hrow, hcc, hcm⟩ := own.out.row lenI
      injection hv' with g1 g2 g3
      subst g1 g3
      unfold maxLen at hcm
      have hcn : n ≤ cv := by rw [ln_len, List.length_range] at hcc; exact hcc
      have hO := hide (orderedD_any w.heap.size n n n cv (ldE (nes es)) av (List.range n) wr hL (by simp) hrow (fun v hv => List.mem_range.1 hv) List.nodup_range (by omega) (Nat.le_refl _) hcn (by omega))
      obtain ⟨p, hp⟩ : ∃ p, p = (kahnE n es).length := ⟨_, rfl⟩
      have hpn : p ≤ n := by rw [hp]; exact kahnE_len n es
      replace hp := hide hp
      clear hL hrow c0 c1 hcc hcm g2
      go_wp2_with fail
      refine hO.out.mono ?_
      rintro e w2 ⟨v, rfl, own2, hb2⟩
      change Own encI 1 3 w2 wr.heap.size v (LN (kahnE n es)) at own2
      obtain ⟨a2, c2, rfl⟩ := own2.shape (n := p) (by rw [ln_len, hp.out])
      have d0 := cu_below hb2 k0 (by simpa using hzw)
      have dl := cell_lt d0
      have hbw2 := hide (hbw.out.trans (hb2.mono (by omega)))
      have own3 := hide (own2.base_le (base' := w.heap.size) (by omega))
      clear own2 hb2 k0 k1
      by_cases hlt2 : p < n
      · go_wp2
        go_ret2
        exact ⟨hbw2.out, .inl ⟨by rw [← hp.out]; exact hlt2, rfl⟩⟩
      · have hpe : (kahnE n es).length = n := by rw [← hp.out]; omega
        replace hpe := hide hpe
        go_wp2
        go_ret2
        exact ⟨hbw2.out, .inr ⟨hpe.out, _, rfl, own3.out⟩⟩
end Go.Proofs.Ytdpbkhempgghaaa
