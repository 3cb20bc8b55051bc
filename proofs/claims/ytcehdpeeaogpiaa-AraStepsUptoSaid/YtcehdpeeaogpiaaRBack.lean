/-
  What the reference's back returns: the way to a place. Conditions: the way up is there; the map says where each was come to from.
-/
import Derived.Test.YtcehdpeeaogpiaaStarPC
import Derived.Test.YtcehdpeeaogpiaaIMapA
import Derived.Test.YtcehdpeeaogpiaaPushAll
import Derived.Test.YtcehdpeeaogpiaaRowS
import Derived.Deep.LoopGhost
namespace Go.Proofs.Ytcehdpeeaogpiaa
open Go.RowKit
set_option linter.unusedSimpArgs false
set_option linter.unusedVariables false
def predM (n : Nat) (pred : Nat → Int) : Int → Option Int := fun x => if 0 ≤ x ∧ x < (n : Int) ∧ 0 ≤ pred x.toNat then some (pred x.toNat) else none
theorem chain_pred {pred : Nat → Int} {v : Nat} {l : List Nat} (h : Chain pred v l) : ∀ j (hj : j < l.length), (∀ h2 : j + 1 < l.length, pred l[j] = (l[j + 1] : Int)) ∧ (j + 1 = l.length → pred l[j] < 0) := by
  induction h with
  | top v h =>
    intro j hj
    simp at hj
    subst hj
    exact ⟨fun h2 => by simp at h2, fun _ => h⟩
  | step v u l h hc ih =>
    intro j hj
    cases j with
    | zero =>
      obtain ⟨t, rfl⟩ := chain_head hc
      exact ⟨fun _ => by simpa using h, fun h2 => by simp at h2⟩
    | succ j =>
      have h3 := ih j (by simpa using hj)
      exact ⟨fun h2 => by simpa using h3.1 (by simpa using h2), fun h2 => by simpa using h3.2 (by simpa using h2)⟩
theorem lp_front (l : List Nat) (j : Nat) (h : j + 1 < l.length) : [((l[j + 1] : Nat) : Int)] ++ LP (l.take (j + 1)).reverse = LP (l.take (j + 1 + 1)).reverse := by
  rw [List.take_succ_eq_append_getElem h, List.reverse_append]
  simp only [LP, List.reverse_cons, List.reverse_nil, List.nil_append, List.singleton_append, List.map_cons]
set_option maxRecDepth 100000 in
set_option maxHeartbeats 1000000 in
theorem rback_any (n nm v pb : Nat) (fr : Int) (pred : Nat → Int) (l : List Nat) (w : World) (hM : IMap w pb nm (predM n pred)) (hl : Chain pred v l) (hn : n ≤ 64) (hll : l.length ≤ n) (hm : ∀ x ∈ l, x < n) :
    Calls Try.prog 113 #[.map (some pb), .int .i64 fr, .int .i64 (v : Int)] w fun e w' => ∃ a k, e = .returned (.slice a l.length k) ∧ Own encI 1 3 w' w.heap.size (.slice a l.length k) (LP l.reverse) ∧ Below w.heap.size w w' := by
  have hcp := hide (chain_pred hl)
  have hL1' : 1 ≤ l.length := by obtain ⟨t, rfl⟩ := chain_head hl; simp
  have h0v : l[0]'hL1' = v := by obtain ⟨t, rfl⟩ := chain_head hl; rfl
  obtain ⟨L, hL⟩ : ∃ L, L = l.length := ⟨_, rfl⟩
  have hpl : pb < w.heap.size := hM.lt
  have hL1 : 1 ≤ L := by rw [hL]; exact hL1'
  have own1 := own_one w w.heap.size 3 (v : Int) (Nat.le_refl _)
  have hl1 : [(v : Int)] = LP (l.take 1).reverse := by
    rw [List.take_succ_eq_append_getElem (show 0 < l.length from hL1'), h0v]
    simp [LP]
  rw [hl1] at own1
  replace own1 := hide own1
  replace hm := hide hm
  replace hM := hide hM
  have hb1 := hide (up_alloc (Below.refl _ _) (Nat.le_refl _) : Below w.heap.size w (w.alloc (.cells #[.int .i64 (v : Int)] 3)))
  rw [← hL] at hll ⊢
  replace hL := hide hL
  clear hl hl1 h0v hL1'
  go_enter Try.func113, Try.ntmps113
  go_wp2
  go_loopg [7] (L - 1) (fun gk s7 wr => ∃ (j cv : Nat) (av : Option Addr), j + 1 + gk = L ∧ s7 = .slice av (j + 1) cv ∧ Hid (Own encI 1 3 wr w.heap.size (.slice av (j + 1) cv) (LP (l.take (j + 1)).reverse)) ∧ Hid (Below w.heap.size w wr))
  case atStart => exact ⟨0, _, _, by omega, rfl, own1, hb1⟩
  case round =>
    clear own1 hb1
    obtain ⟨j, cv, av, hj, rfl, hO, hb⟩ := hrel
    obtain ⟨g, rfl, hg1, hg2⟩ := hO.out.blockI' (by omega)
    have hz := hb.out.size
    have hjl : j < l.length := by have := hL.out; omega
    have hhead : (LP (l.take (j + 1)).reverse)[0]'(by rw [lp_len]; simp; omega) = ((l[j] : Nat) : Int) := by
      rw [List.getElem_of_eq (show LP (l.take (j + 1)).reverse = ((l[j] : Nat) : Int) :: LP (l.take j).reverse by rw [List.take_succ_eq_append_getElem hjl, List.reverse_append]; simp only [LP, List.reverse_cons, List.reverse_nil, List.nil_append, List.singleton_append, List.map_cons])]
      rfl
    have c0 := hO.out.getI 0 (by rw [lp_len]; simp; omega)
    rw [hhead] at c0
    have hxn := hm.out l[j] (List.getElem_mem hjl)
    obtain ⟨hp1, hp2⟩ := hcp.out j hjl
    have hfr := hide (fun h => lp_front l j h)
    obtain ⟨x, hx⟩ : ∃ x, x = l[j] := ⟨_, rfl⟩
    rw [← hx] at c0 hxn hp1 hp2
    have hMr := hide (hM.out.stays (hb.out.mono (by omega) : Below w.heap.size w wr))
    have hBd : Bd (x : Int) := by unfold Bd; omega
    have ij : (0 : Int) < ((j + 1 : Nat) : Int) := by omega
    replace hx := hide hx
    by_cases hlast : gk = 0
    · have hneg := hp2 (by have := hL.out; omega)
      have hpm : predM n pred (x : Int) = none := by unfold predM; rw [if_neg (fun h => by have := h.2.2; simp at this; omega)]
      have hjL : j + 1 = L := by omega
      have e1 : l.take (j + 1) = l := List.take_of_length_le (by have := hL.out; omega)
      have hfin := hide (show Own encI 1 3 wr w.heap.size (.slice (some ⟨g, 0, none⟩) (j + 1) cv) (LP l.reverse) by have := hO.out; rw [e1] at this; exact this)
      replace hpm := hide hpm
      replace hjL := hide hjL
      clear hp1 hp2 hneg e1 hhead hO
      go_wp2_with (at_lookup; (refine wpList_imap_ok rfl (.tmp 13) (.tmp 16) 109 rfl Try.underlying109 hMr.out (x : Int) hBd rfl rfl ?_); rw [hpm.out]; simp only [Option.getD_none, Option.isSome_none])
      go_ret
      rw [← hjL.out]
      exact ⟨_, cv, rfl, hfin.out, hb.out⟩
    · obtain ⟨gk', rfl⟩ : ∃ gk', gk = gk' + 1 := ⟨gk - 1, by omega⟩
      have hjl2 : j + 1 < l.length := by have := hL.out; omega
      have hps := hp1 hjl2
      have hf2 := hfr.out hjl2
      obtain ⟨y, hy⟩ : ∃ y, y = l[j + 1] := ⟨_, rfl⟩
      rw [← hy] at hps hf2
      have hpm : predM n pred (x : Int) = some (y : Int) := by unfold predM; rw [if_pos ⟨by omega, by omega, by simp; omega⟩]; simp [hps]
      have own9 := hide (own_one wr w.heap.size 3 (y : Int) hz)
      have hlen : (LP (l.take (j + 1)).reverse).length = j + 1 := by rw [lp_len]; simp; omega
      have hrow9 : Row encI 1 (wr.alloc (.cells #[.int .i64 (y : Int)] 3)) (wr.heap.size + 1) (some ⟨g, 0, none⟩) (LP (l.take (j + 1)).reverse) := by
        obtain ⟨a', c', hv, hr, _⟩ := hO.out.row lenI
        simp only [Value.slice.injEq] at hv
        obtain ⟨rfl, _⟩ := hv
        exact (hr.below (up_alloc (Below.refl _ _) (Nat.le_refl _)) (Nat.le_refl _)).mono (by omega)
      have hnn : 1 + (j + 1) = j + 1 + 1 := by omega
      replace hnn := hide hnn
      replace hpm := hide hpm
      replace hrow9 := hide hrow9
      replace hlen := hide hlen
      replace hf2 := hide hf2
      replace hps := hide hps
      replace hy := hide hy
      have hBl := hide (show ∀ w6, Below w.heap.size (wr.alloc (.cells #[.int .i64 (y : Int)] 3)) w6 → Below w.heap.size w w6 from fun w6 h6 => hb.out.trans (unalloc h6 hz))
      clear hp1 hp2 hhead
      go_wp2_with (first
        | (at_lookup; (refine wpList_imap_ok rfl (.tmp 13) (.tmp 16) 109 rfl Try.underlying109 hMr.out (x : Int) hBd rfl rfl ?_); rw [hpm.out]; simp only [Option.getD_some, Option.isSome_some])
        | (at_builtin; (refine wpList_all rfl (.tmp 24) (.tmp 25) 29 rfl _ 8 Try.underlying29 info_int rfl ?d1 lenI oneI 1 rfl rfl own9.out (wr.heap.size + 1) (some ⟨g, 0, none⟩) (j + 1) cv (LP (l.take (j + 1)).reverse) hlen.out rfl hrow9.out ?d4 ?d5 ?d6 ?_); (case d1 => omega); (case d4 => omega); (case d5 => unfold maxLen; omega); (case d6 => first | omega | (simp; omega)); intro a6 c6 w6 own6 hb6' hg6; rw [hnn.out, hf2.out] at own6; rw [hnn.out]; have hB6 := hide (hBl.out _ hb6'); replace own6 := hide own6; replace hb6' := hide hb6'; replace hg6 := hide hg6))
      go_roundg gk'
      case measure => omega
      case rel => exact ⟨j + 1, c6, a6, by omega, rfl, own6, hB6⟩
end Go.Proofs.Ytcehdpeeaogpiaa
