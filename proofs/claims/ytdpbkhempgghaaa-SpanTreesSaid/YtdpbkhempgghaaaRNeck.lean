/-
  What the reference's joined and Neck return. Conditions: a right net, places in bounds.
-/
import Derived.Test.YtdpbkhempgghaaaNeckP
import Derived.Test.YtdpbkhempgghaaaRGroups
import Derived.Test.YtdpbkhempgghaaaTabs2
import Derived.Deep.RegionLaw
namespace Go.Proofs.Ytdpbkhempgghaaa
open Go.RowKit
set_option linter.unusedSimpArgs false
set_option linter.unusedVariables false
/-- the numbers of the edges of so much at most, and the pairs that they are -/
def idxT (c : Int) (es : List Ed) (k : Nat) : List Int := ((List.range k).filter fun (i : Nat) => decide ((edAt es (i : Int)).c ≤ c)).map fun (i : Nat) => (i : Int)
def pairI (es : List Ed) (x : Int) : P2 := ⟨((edAt es x).u : Int), ((edAt es x).v : Int)⟩
theorem idxT_succ (c : Int) (es : List Ed) (k : Nat) : idxT c es (k + 1) = if (edAt es (k : Int)).c ≤ c then idxT c es k ++ [(k : Int)] else idxT c es k := by
  unfold idxT
  rw [List.range_succ, List.filter_append, List.map_append]
  by_cases h : (edAt es (k : Int)).c ≤ c
  · rw [if_pos h, List.filter_cons, if_pos (by simpa using h)]
    rfl
  · rw [if_neg h, List.filter_cons, if_neg (by simpa using h)]
    simp
theorem idxT_len (c : Int) (es : List Ed) (k : Nat) : (idxT c es k).length ≤ k := by
  unfold idxT
  rw [List.length_map]
  have := List.length_filter_le (fun (i : Nat) => decide ((edAt es (i : Int)).c ≤ c)) (List.range k)
  simpa using this
theorem idxT_mem {c : Int} {es : List Ed} {k : Nat} {x : Int} : x ∈ idxT c es k ↔ ∃ i : Nat, x = (i : Int) ∧ i < k ∧ (edAt es (i : Int)).c ≤ c := by
  unfold idxT
  simp only [List.mem_map, List.mem_filter, List.mem_range, decide_eq_true_eq]
  constructor
  · rintro ⟨i, ⟨h1, h2⟩, rfl⟩; exact ⟨i, rfl, h1, h2⟩
  · rintro ⟨i, rfl, h1, h2⟩; exact ⟨i, ⟨h1, h2⟩, rfl⟩
theorem idxT_pairs {c : Int} {es : List Ed} {p : Nat × Nat} : p ∈ natPairs ((idxT c es es.length).map (pairI es)) ↔ p ∈ natPairs (thrP c es) := by
  rw [thr_mem]
  unfold natPairs
  rw [List.map_map, List.mem_map]
  constructor
  · rintro ⟨x, hx, rfl⟩
    obtain ⟨i, rfl, hi, hc⟩ := idxT_mem.1 hx
    refine ⟨i, hi, by rwa [edAt_c hi] at hc, ?_⟩
    rw [← edAt_uv hi]
    simp [pairI]
  · rintro ⟨i, hi, hc, rfl⟩
    refine ⟨(i : Int), idxT_mem.2 ⟨i, rfl, hi, by rwa [edAt_c hi]⟩, ?_⟩
    rw [← edAt_uv hi]
    simp [pairI]
theorem conn_idx {c : Int} {es : List Ed} {a b : Nat} : Conn (natPairs ((idxT c es es.length).map (pairI es))) a b ↔ JN es a b c := ⟨Conn.mono fun p hp => idxT_pairs.1 hp, Conn.mono fun p hp => idxT_pairs.2 hp⟩
theorem unallocD {B : Nat} {w w' : World} {o : Obj} (h : Below B (w.alloc o).drew w') (hB : B ≤ w.heap.size) : Below B w w' := ((Below.refl B w).alloc hB o).drew.trans h
theorem info_pair : (Try.prog.info? 106).map (fun i => (i.zero, i.size, i.bytes)) = some (some (.agg #[.int .i64 0, .int .i64 0]), 2, 16) := by kernel_rfl
set_option maxRecDepth 100000 in
set_option maxHeartbeats 4000000 in
theorem rjoined_any (n : Nat) (an : Option Addr) (cap : Nat) (es : List Ed) (al : Option Addr) (cl q : Nat) (l : List Int) (a b : Nat) (w : World) (B : Nat) (hB : B ≤ w.heap.size) (hE : Row encE 3 w B an es) (hL : Row encI 1 w B al l) (hq : l.length = q) (hq6 : q ≤ 600) (hn : n ≤ 64) (hes : Right n es) (hl : ∀ x ∈ l, ∃ i : Nat, x = (i : Int) ∧ i < es.length) (hes6 : es.length ≤ 600) (ha : a < n) (hb : b < n) :
    Calls Try.prog 115 #[.agg #[.int .i64 (n : Int), .slice an es.length cap], .slice al q cl, .int .i64 (a : Int), .int .i64 (b : Int)] w fun e w' => ∃ t : Bool, e = .returned (.bool t) ∧ (t = true ↔ Conn (natPairs (l.map (pairI es))) a b) ∧ Below w.heap.size w w' := by
  replace hE := hide hE
  replace hL := hide hL
  replace hl := hide hl
  replace hes := hide hes
  replace hq := hide hq
  go_enter Try.func115, Try.ntmps115
  go_wp2
  obtain ⟨w0, h0⟩ : ∃ w0, w0 = w.alloc (.cells #[.int .i64 (n : Int), .slice an es.length cap] 32) := ⟨_, rfl⟩
  have hB0 := hide (show Below w.heap.size w w0 by rw [h0]; exact (Below.refl _ _).alloc (Nat.le_refl _) _)
  have c0 : w0.cell? ⟨w.heap.size, 0, none⟩ = some (.int .i64 (n : Int)) := by rw [h0]; simp [go_sem]
  have c1 : w0.cell? ⟨w.heap.size, 1, none⟩ = some (.slice an es.length cap) := by rw [h0]; simp [go_sem]
  have hz0 : w.heap.size < w0.heap.size := cell_lt c0
  simp only [← h0]
  replace h0 := hide h0
  go_loopw [9, 11, 15] (fun s9 _ i wr => ∃ (k : Nat) (av : Option Addr) (cv : Nat), k ≤ q ∧ i = .int .i64 k ∧ s9 = .slice av k cv ∧ Hid (Own encP 2 106 wr w0.heap.size (.slice av k cv) ((l.take k).map (pairI es))) ∧ Hid (Below w0.heap.size w0 wr)) (fun _ _ i _ => q - (intOf i).toNat)
  case atStart => exact ⟨0, none, 0, Nat.zero_le _, rfl, rfl, hide (Own.nil _ _), hide (Below.refl _ _)⟩
  case round =>
    obtain ⟨k, av, cv, hk, rfl, rfl, own, hbr⟩ := hrel
    have hzr := hbr.out.size
    have hbw := hide (hB0.out.trans (hbr.out.mono (by omega)))
    have k0 := cu_below hbr.out c0 (by simpa using hz0)
    have k1 := cu_below hbr.out c1 (by simpa using hz0)
    have hzx : w.heap.size < wr.heap.size := by omega
    clear c0 c1
    by_cases hlt : k < q
    · have hkl : k < l.length := by rw [hq.out]; exact hlt
      obtain ⟨i, hi1, hi⟩ := hl.out _ (List.getElem_mem hkl)
      obtain ⟨u, v, e1, e2, e3, e4, e5, e6, -⟩ := right_edge hes.out i hi
      obtain ⟨eb, eo, rfl, heb, q0, q1, q2⟩ := hE.out.ed i hi
      obtain ⟨bl, ol, rfl, hbl, l0⟩ := hL.out.int k hkl
      rw [hi1] at l0
      rw [e1] at q0
      rw [e2] at q1
      have q0 := cu_below hbw.out q0 (by simp; omega)
      have q1 := cu_below hbw.out q1 (by simp; omega)
      have l0 := cu_below hbw.out l0 (by simp; omega)
      have hebx : eb < wr.heap.size := by omega
      have hblx : bl < wr.heap.size := by omega
      have htk := hide (show (l.take (k + 1)).map (pairI es) = (l.take k).map (pairI es) ++ [⟨(u : Int), (v : Int)⟩] by
        rw [List.take_succ_eq_append_getElem hkl, List.map_append, hi1]
        simp [pairI, edAt_is hi e1 e2])
      have hln := hide (show ((l.take k).map (pairI es)).length = k by rw [List.length_map, List.length_take]; omega)
      replace hi1 := hide hi1
      replace e1 := hide e1
      replace e2 := hide e2
      have ik : (0 : Int) ≤ (k : Int) ∧ (k : Int) < (q : Int) := by omega
      have ii : (0 : Int) ≤ (i : Int) ∧ (i : Int) < (es.length : Int) := by omega
      clear q2 e5 e6
      go_wp2
      go_region_law (first
        | (refine step_pushL (base := w0.heap.size) (e := 106) (enc := encP) (xs := (l.take k).map (pairI es)) (v := .slice av k cv) rfl (.tmp 19) (.tmp 33) 174 rfl _ 16 Try.underlying174 info_pair rfl (by omega) lenP oneP k hln.out rfl ?_ ⟨wr.heap.size, 0, none⟩ 1 ⟨(u : Int), (v : Int)⟩ rfl (newP _ _ _ _ (by simp)) (by omega) (by unfold maxLen; omega) ?_ ?_; (next => first | exact (own.out.alloc _) | exact (own.out.alloc _).drew | exact (own.out.drew).alloc _); (next => first | omega | (simp; omega)); intro g1 c1 w1 own1 hb1 hgr1 hat1 hgl1; have hB1 := hide (show Below w0.heap.size wr w1 by first | exact unallocD hb1 (by omega) | exact unalloc hb1 (by omega))))
      all_goals
        replace own1 := hide own1
        replace hb1 := hide hb1
        replace hgr1 := hide hgr1
        go_wp2
        go_roundw
        case rel => exact ⟨k + 1, _, _, by omega, by go_num, rfl, hide (by rw [htk.out]; exact own1.out), hide (hbr.out.trans hB1.out)⟩
        case measure => simp [intOf]; omega
    · obtain rfl : k = q := by omega
      have hfull := hide (show (l.take k).map (pairI es) = l.map (pairI es) by rw [List.take_of_length_le (by have := hq.out; omega)])
      obtain ⟨a', c', hv', hrp, _⟩ := own.out.row lenP
      injection hv' with g1 g2 g3
      subst g1 g3
      clear g2
      rw [hfull.out] at hrp
      replace hrp := hide hrp
      have hpl := hide (show (l.map (pairI es)).length = k by rw [List.length_map]; exact hq.out)
      have hpr := hide (show ∀ p ∈ l.map (pairI es), 0 ≤ p.a ∧ p.a < (n : Int) ∧ 0 ≤ p.b ∧ p.b < (n : Int) from by
        intro p hp
        obtain ⟨x, hx, rfl⟩ := List.mem_map.1 hp
        obtain ⟨i, rfl, hi⟩ := hl.out x hx
        obtain ⟨u, v, e1, e2, e3, e4, -⟩ := right_edge hes.out i hi
        simp only [pairI, edAt_is hi e1 e2]
        omega)
      have hconn := hide (rounds_conn (n := n) (l := natPairs (l.map (pairI es))) (fun p hp => by
        obtain ⟨x, hx, rfl⟩ := List.mem_map.1 hp
        have := hpr.out x hx
        simp only
        omega) ha hb)
      have hGr := hide (by have := rgroups_any n av cv (l.map (pairI es)) wr wr.heap.size (Nat.le_refl _) hrp.out hn (by rw [hpl.out]; omega) hpr.out; rw [hpl.out] at this; exact this)
      go_wp2_with fail
      refine hGr.out.mono ?_
      rintro e w2 ⟨g, rfl, ownG, hb2⟩
      unfold grpOf at ownG
      have d1 := ownG.getI a (by rw [lst_len]; exact ha)
      have d2 := ownG.getI b (by rw [lst_len]; exact hb)
      rw [lst_get] at d1 d2
      have hgl := ownG.at_base.2
      have ia : (0 : Int) ≤ (a : Int) ∧ (a : Int) < (n : Int) := by omega
      have ib : (0 : Int) ≤ (b : Int) ∧ (b : Int) < (n : Int) := by omega
      replace ownG := hide ownG
      have hb3 := hide (hbw.out.trans (hb2.mono hbw.out.size))
      generalize rounds (natPairs (l.map (pairI es))) n a = ra at *
      generalize rounds (natPairs (l.map (pairI es))) n b = rb at *
      clear hb2 k0 k1
      go_wp2
      go_quiet (fail)
      go_wp2
      go_ret
      exact ⟨_, rfl, by rw [← hconn.out]; simp [Int.natCast_inj], up_drewN hb3.out⟩
end Go.Proofs.Ytdpbkhempgghaaa
