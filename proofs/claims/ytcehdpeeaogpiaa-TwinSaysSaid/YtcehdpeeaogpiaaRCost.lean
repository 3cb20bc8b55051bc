/-
  What the reference's CostTwo returns: what two walks that share no edge cost, on the cheapest edges. Conditions: a right net, right walks.
-/
import Derived.Test.YtcehdpeeaogpiaaTwA
import Derived.Test.YtcehdpeeaogpiaaRApart
import Derived.Test.YtcehdpeeaogpiaaSortL
import Derived.Deep.LoopGhost
namespace Go.Proofs.Ytcehdpeeaogpiaa
open Go.RowKit
set_option linter.unusedSimpArgs false
set_option linter.unusedVariables false
theorem sort_keep {w : World} (n g off : Nat) (d : Array Int) (os : Array Obj) : Keep (fun k => k = g) w (Go.Sort.grow (Go.Sort.putRow (Value.int .i64) (Go.Sort.ahead w n) g off d) os) := by
  refine ⟨rfl, rfl, rfl, ?_, fun k hk hne => ?_⟩
  · simp [Go.Sort.grow, Go.Sort.putRow, Go.Sort.mapBlock, Go.Sort.ahead]
  · simp only [Go.Sort.grow, Go.Sort.putRow, Go.Sort.mapBlock, Go.Sort.ahead]
    rw [Array.getElem?_append_left (by simpa using hk), Array.getElem?_modify, if_neg (fun e => hne e.symm)]
theorem sort_own (g c m : Nat) (xs : List Int) (base : Nat) (w : World) (own : Own encI 1 3 w base (.slice (some ⟨g, 0, none⟩) m c) xs) (hm : m ≤ 1000) :
    Calls Try.prog 164 #[.slice (some ⟨g, 0, none⟩) m c] w fun e w' => e = .returned (.tuple #[]) ∧ Keep (fun k => k = g) w w' ∧ Row encI 1 w' w'.heap.size (some ⟨g, 0, none⟩) (srt xs) := by
  have hl := own.len
  have hlen : xs.length = m := by simpa using hl
  subst hlen
  have hH : Go.Sort.Holds (Value.int .i64) w g 0 xs.toArray := by
    intro j hj
    have hj2 : j < xs.length := by simpa using hj
    refine ⟨?_, own.free _⟩
    have := own.getI j hj2
    rw [Nat.zero_add, this]
    simp [hj2]
  refine (Try.slices_Sort_int g 0 c xs w hH own.at_base.2 (by omega)).mono ?_
  rintro e w' ⟨rfl, n, os, rfl⟩
  have hk := sort_keep (w := w) n g 0 (xs.mergeSort fun x y => decide (x ≤ y)).toArray os
  have hg := own.at_base.2
  refine ⟨rfl, hk, fun i hi => ⟨g, 0, rfl, Nat.lt_of_lt_of_le hg hk.size, fun j u hj => ?_⟩⟩
  have hi2 : i < xs.length := by unfold srt at hi; rw [List.length_mergeSort] at hi; exact hi
  match j, hj with
  | 0, hj =>
    simp [encI] at hj
    subst hj
    have h1 := Go.Sort.cell?_putRow (Value.int .i64) (Go.Sort.ahead w n) g 0 xs.toArray (xs.mergeSort fun x y => decide (x ≤ y)).toArray (fun j hj => hH j hj) (by simp) i (by simp; exact hi2)
    have h2 : (Go.Sort.grow (Go.Sort.putRow (Value.int .i64) (Go.Sort.ahead w n) g 0 (xs.mergeSort fun x y => decide (x ≤ y)).toArray) os).cell? ⟨g, 0 + i, none⟩ = (Go.Sort.putRow (Value.int .i64) (Go.Sort.ahead w n) g 0 (xs.mergeSort fun x y => decide (x ≤ y)).toArray).cell? ⟨g, 0 + i, none⟩ := by
      refine World.cell?_of_block ?_
      simp only [Go.Sort.grow]
      rw [Array.getElem?_append_left]
      simp [Go.Sort.putRow, Go.Sort.mapBlock, Go.Sort.ahead]
      exact hg
    have h3 : (0 + i * 1 + 0) = 0 + i := by omega
    rw [h3, h2, h1]
    simp [srt, hi2]
  | j + 1, hj => simp [encI] at hj
/-- the costs of the edges between two places, of the first k -/
def btC (es : List Ed) (u v k : Nat) : List Int := ((List.range k).filter (fun i => decide (eu es i = u) && decide (ev es i = v))).map (ec es)
theorem btC_all (es : List Ed) (u v : Nat) : btC es u v es.length = (btw es u v).map (ec es) := rfl
theorem btC_step (es : List Ed) (u v k : Nat) : btC es u v (k + 1) = if eu es k = u ∧ ev es k = v then btC es u v k ++ [ec es k] else btC es u v k := by
  unfold btC
  rw [List.range_succ, List.filter_append, List.map_append, List.filter_cons]
  by_cases h : eu es k = u ∧ ev es k = v
  · rw [if_pos h, if_pos (by simp [h])]; rfl
  · rw [if_neg h, if_neg (by simpa using h)]; simp
theorem btC_len (es : List Ed) (u v k : Nat) : (btC es u v k).length ≤ k := by
  unfold btC
  rw [List.length_map]
  exact Nat.le_trans (List.length_filter_le _ _) (by simp)
theorem sum_abs {K : Int} : ∀ (l : List Int), (∀ x ∈ l, -K ≤ x ∧ x ≤ K) → -(K * l.length) ≤ l.sum ∧ l.sum ≤ K * l.length
  | [], _ => by simp
  | x :: r, h => by
    have ih := sum_abs r (fun y hy => h y (List.mem_cons_of_mem _ hy))
    have h1 := h x List.mem_cons_self
    rw [List.sum_cons, List.length_cons, show ((r.length + 1 : Nat) : Int) = (r.length : Int) + 1 by omega, Int.mul_add, Int.mul_one]
    omega
theorem isum_abs {g : Nat → Int} {K : Int} (hK : 0 ≤ K) : ∀ {m : Nat}, (∀ i, i < m → -K ≤ g i ∧ g i ≤ K) → -(K * m) ≤ isum m g ∧ isum m g ≤ K * m
  | 0, _ => by simp [isum]
  | m + 1, h => by
    have ih := isum_abs hK (m := m) (fun i hi => h i (by omega))
    have h1 := h m (by omega)
    rw [isum, show ((m + 1 : Nat) : Int) = (m : Int) + 1 by omega, Int.mul_add, Int.mul_one]
    omega
/-- what is paid between two places -/
def cuv (es : List Ed) (p q : List Int) (u v : Nat) : Int := ((srt ((btw es u v).map (ec es))).take (min (btw es u v).length (stA p u v + stA q u v).toNat)).sum
theorem srt_bd {n : Nat} {es : List Ed} (hes : Right n es) (u v : Nat) : ∀ x ∈ srt (btC es u v es.length), -10000 ≤ x ∧ x ≤ 10000 := by
  intro x hx
  have := (srt_perm _).mem_iff.1 hx
  unfold btC at this
  obtain ⟨i, hi, rfl⟩ := List.mem_map.1 this
  have hi2 := List.mem_range.1 (List.mem_filter.1 hi).1
  have := hes (edN es i) (edN_mem hi2)
  unfold ec
  omega
theorem take_bd {n : Nat} {es : List Ed} (hes : Right n es) (hl : es.length ≤ 600) (u v k : Nat) : -6000000 ≤ ((srt (btC es u v es.length)).take k).sum ∧ ((srt (btC es u v es.length)).take k).sum ≤ 6000000 := by
  have h1 := sum_abs (K := 10000) ((srt (btC es u v es.length)).take k) (fun x hx => srt_bd hes u v x (List.mem_of_mem_take hx))
  have h2 : ((srt (btC es u v es.length)).take k).length ≤ 600 := by
    have h3 := btC_len es u v es.length
    have h4 := (srt_perm (btC es u v es.length)).length_eq
    rw [List.length_take]
    omega
  omega
theorem cuv_bd {n : Nat} {es : List Ed} (hes : Right n es) (hl : es.length ≤ 600) (p q : List Int) (u v : Nat) : -6000000 ≤ cuv es p q u v ∧ cuv es p q u v ≤ 6000000 := take_bd hes hl u v _
theorem costTwoF_is (es : List Ed) (n : Nat) (p q : List Int) : costTwoF es n p q = isum n (fun u => isum n (fun v => cuv es p q u v)) := rfl
/-- what CostTwo's frame keeps -/
structure CF (w : World) (n m : Nat) (a : Option Addr) (cap : Nat) (wr : World) : Prop where
  c0 : wr.cell? ⟨w.heap.size, 0, none⟩ = some (.int .i64 (n : Int))
  c1 : wr.cell? ⟨w.heap.size, 1, none⟩ = some (.slice a m cap)
  bel : Below w.heap.size w wr
theorem CF.later {w wr w' : World} {n m : Nat} {a : Option Addr} {cap : Nat} (h : CF w n m a cap wr) (hb : Below (w.heap.size + 1) wr w') : CF w n m a cap w' :=
  ⟨cu_below hb h.c0 (by simp), cu_below hb h.c1 (by simp), h.bel.trans (hb.mono (by omega))⟩
theorem CF.lt {w wr : World} {n m : Nat} {a : Option Addr} {cap : Nat} (h : CF w n m a cap wr) : w.heap.size < wr.heap.size := cell_lt h.c0
set_option maxRecDepth 100000 in
set_option maxHeartbeats 4000000 in
theorem rcost_any (n : Nat) (an : Option Addr) (cap : Nat) (es : List Ed) (pa qa : Option Addr) (pc qc : Nat) (p q : List Int) (w : World) (B : Nat) (hB : B ≤ w.heap.size) (hE : Row encE 3 w B an es) (hP : Row encI 1 w B pa p) (hQ : Row encI 1 w B qa q) (hn : n ≤ 64) (hl : es.length ≤ 600) (hes : Right n es) (hWp : Walked n p) (hWq : Walked n q) (r : Int) (hr : r = costTwoF es n p q) :
    Calls Try.prog 79 #[.agg #[.int .i64 (n : Int), .slice an es.length cap], .slice pa p.length pc, .slice qa q.length qc] w fun e w' => e = .returned (.int .i64 r) ∧ Below w.heap.size w w' := by
  rw [costTwoF_is] at hr
  have hSt := hide (fun (u v sb : Nat) (w' : World) (hb : Below w.heap.size w w') (c0 : w'.cell? ⟨sb, 0, none⟩ = some (.slice pa p.length pc)) (c1 : w'.cell? ⟨sb, 1, none⟩ = some (.slice qa q.length qc)) => steps_any n u v sb pa qa pc qc p q w' B (by have := hb.size; omega) (hP.below hb hB) (hQ.below hb hB) hWp hWq c0 c1)
  have hgb := hide (fun (u v : Nat) => (show 0 ≤ stA p u v + stA q u v ∧ stA p u v + stA q u v ≤ 1000 from by
    have := gS_bd hWp hWq 2 u v
    have hge : gS p q 2 u v = stA p u v + stA q u v := by simp [gS]
    rw [hge] at this
    omega))
  have hcb := hide (fun (u v : Nat) => cuv_bd hes hl p q u v)
  have htb := hide (fun (u v k : Nat) => take_bd hes hl u v k)
  obtain ⟨C, hC⟩ : ∃ C : Nat → Nat → Int, C = cuv es p q := ⟨_, rfl⟩
  have hr2 := hide (show r = isum n (fun u => isum n (fun v => C u v)) by rw [hr, hC])
  rw [← hC] at hcb
  have hib := hide (fun (u k : Nat) (hk : k ≤ n) => (show -384000000 ≤ isum k (fun v => C u v) ∧ isum k (fun v => C u v) ≤ 384000000 from by
    have := isum_abs (g := fun v => C u v) (K := 6000000) (by omega) (m := k) (fun i _ => hcb.out u i)
    omega))
  have hob := hide (fun (k : Nat) (hk : k ≤ n) => (show -24576000000 ≤ isum k (fun u => isum n (fun v => C u v)) ∧ isum k (fun u => isum n (fun v => C u v)) ≤ 24576000000 from by
    have := isum_abs (g := fun u => isum n (fun v => C u v)) (K := 384000000) (by omega) (m := k) (fun i _ => hib.out i n (Nat.le_refl _))
    omega))
  obtain ⟨pl, hpl⟩ : ∃ pl, pl = p.length := ⟨_, rfl⟩
  obtain ⟨ql, hql⟩ : ∃ ql, ql = q.length := ⟨_, rfl⟩
  rw [← hpl, ← hql] at hSt ⊢
  replace hpl := hide hpl
  replace hql := hide hql
  replace hE := hide hE
  replace hes := hide hes
  replace hC := hide hC
  clear hr hP hQ hWp hWq
  go_enter Try.func79, Try.ntmps79
  go_wp2
  obtain ⟨W0, hW0⟩ : ∃ W0, W0 = w.alloc (.cells #[.int .i64 (n : Int), .slice an es.length cap] 24) := ⟨_, rfl⟩
  have hF0 : Hid (CF w n es.length an cap W0) := hide (by rw [hW0]; exact ⟨by simp [go_sem], by simp [go_sem], up_alloc (Below.refl _ _) (Nat.le_refl _)⟩)
  simp only [← hW0]
  replace hW0 := hide hW0
  have c0 := hF0.out.c0
  have c1 := hF0.out.c1
  have z0 := hF0.out.lt
  go_loopw [7, 17] (fun s7 s17 wr => ∃ (u : Nat), u ≤ n ∧ s17 = .int .i64 (u : Int) ∧ s7 = .int .i64 (isum u (fun u => isum n (fun v => C u v))) ∧ Hid (CF w n es.length an cap wr)) (fun _ s17 _ => n - (intOf s17).toNat)
  case atStart => exact ⟨0, Nat.zero_le _, rfl, rfl, hF0⟩
  case round =>
    clear hF0 c0 c1 z0
    obtain ⟨u, hu, rfl, rfl, hF⟩ := hrel
    have c0 := hF.out.c0
    have c1 := hF.out.c1
    have z0 := hF.out.lt
    have hOb := hob.out u hu
    by_cases hlt : u < n
    · have hst1 := hide (show isum (u + 1) (fun u => isum n (fun v => C u v)) = isum u (fun u => isum n (fun v => C u v)) + isum n (fun v => C u v) from rfl)
      obtain ⟨X, hX⟩ : ∃ X, X = isum u (fun u => isum n (fun v => C u v)) := ⟨_, rfl⟩
      rw [← hX] at hst1 hOb ⊢
      replace hX := hide hX
      go_wp2
      clear c0 c1 z0
      go_loopw [7, 22] (fun s7 s22 wr => ∃ (v : Nat), v ≤ n ∧ s22 = .int .i64 (v : Int) ∧ s7 = .int .i64 (X + isum v (fun v => C u v)) ∧ Hid (CF w n es.length an cap wr)) (fun _ s22 _ => n - (intOf s22).toNat)
      case atStart => exact ⟨0, Nat.zero_le _, rfl, by simp [isum], hF⟩
      case round =>
        clear hF
        obtain ⟨v, hv, rfl, rfl, hF⟩ := hrel
        have c0 := hF.out.c0
        have c1 := hF.out.c1
        have z0 := hF.out.lt
        have hIb := hib.out u v hv
        by_cases hlt2 : v < n
        · have hst2 := hide (show isum (v + 1) (fun v => C u v) = isum v (fun v => C u v) + C u v from rfl)
          obtain ⟨Y, hY⟩ : ∃ Y, Y = X + isum v (fun v => C u v) := ⟨_, rfl⟩
          have hYb : -30000000000 ≤ Y ∧ Y ≤ 30000000000 := by omega
          rw [← hY]
          replace hY := hide hY
          clear hIb
          go_wp2
          clear c0 c1 z0
          go_loopw [10, 28] (fun s10 s28 wr => ∃ (k m : Nat) (av : Option Addr) (cv : Nat), k ≤ es.length ∧ s28 = .int .i64 (k : Int) ∧ s10 = .slice av m cv ∧ Hid (m = (btC es u v k).length) ∧ m ≤ k ∧ Hid (Own encI 1 3 wr (w.heap.size + 1) (.slice av m cv) (btC es u v k)) ∧ Hid (CF w n es.length an cap wr)) (fun _ s28 _ => es.length - (intOf s28).toNat)
          case atStart => exact ⟨0, 0, none, 0, Nat.zero_le _, rfl, rfl, hide rfl, Nat.le_refl _, hide (Own.nil _ _), hF⟩
          case round =>
            clear hF
            obtain ⟨k, m, av, cv, hk, rfl, rfl, hm, hmk, hown, hF⟩ := hrel
            have z0 := hF.out.lt
            by_cases hlt3 : k < es.length
            · obtain ⟨b, o, rfl, hbB, d0, d1, d2⟩ := (hE.out.below hF.out.bel hB).ed k hlt3
              have hex : es[k] = edN es k := by unfold edN; rw [List.getD, List.getElem?_eq_getElem hlt3]; rfl
              rw [hex] at d0 d1 d2
              have hrr := hes.out (edN es k) (edN_mem hlt3)
              obtain ⟨⟨xu, xv, xc⟩, hxe⟩ : ∃ xe, xe = edN es k := ⟨_, rfl⟩
              rw [← hxe] at d0 d1 d2 hrr
              simp only at d0 d1 d2 hrr
              obtain ⟨uu, rfl⟩ := Int.eq_ofNat_of_zero_le hrr.1
              obtain ⟨vv, rfl⟩ := Int.eq_ofNat_of_zero_le hrr.2.2.1
              have hstp := btC_step es u v k
              rw [show eu es k = uu by unfold eu; rw [← hxe]; simp, show ev es k = vv by unfold ev; rw [← hxe]; simp, show ec es k = xc by unfold ec; rw [← hxe]] at hstp
              replace hxe := hide hxe
              have hbr : b < wr.heap.size := cell_lt d0
              have ik : (0 : Int) ≤ (k : Int) ∧ (k : Int) < (es.length : Int) := by omega
              have hF2 := hide (hF.out.later (w' := wr.alloc (.cells #[.int .i64 (uu : Int), .int .i64 (vv : Int), .int .i64 xc] 34)) (up_alloc (Below.refl _ _) (by omega)))
              have hown2 := hide (hown.out.alloc (.cells #[.int .i64 (uu : Int), .int .i64 (vv : Int), .int .i64 xc] 34))
              clear hex
              by_cases hyes : uu = u ∧ vv = v
              · obtain ⟨rfl, rfl⟩ := hyes
                rw [if_pos ⟨rfl, rfl⟩] at hstp
                replace hstp := hide hstp
                have q1 : ((uu : Int) == (uu : Int)) = true := by simp
                have q2 : ((vv : Int) == (vv : Int)) = true := by simp
                go_wp2_with (at_builtin; (refine wpList_push (e := 3) (enc := encI) (xs := btC es uu vv k) (v := .slice av (m) cv) (base := w.heap.size + 1) rfl (.tmp 42) (.tmp 45) 29 rfl _ 8 Try.underlying29 info_int rfl ?d11 lenI oneI (m) ?d21 ?d31 ?d41 ⟨wr.heap.size + 1, 0, none⟩ 1 xc ?d51 ?d61 ?d71 ?d81 ?d91 ?_); (case d11 => omega); (case d21 => exact hm.out.symm); (case d31 => rfl); (case d41 => exact (hown2.out.alloc _)); (case d51 => rfl); (case d61 => exact newI _ _ _ _ (by simp)); (case d71 => omega); (case d81 => unfold maxLen; omega); (case d91 => first | omega | (simp; done) | (simp; omega)); intro g1 c1 w1 own1 hb1 hgr1 hg1 hgl1; have hF3 := hide (hF.out.later (unalloc (unalloc hb1 (by simp; omega)) (by omega))); replace own1 := hide own1; replace hb1 := hide hb1; replace hgr1 := hide hgr1)
                go_roundw
                case rel => exact ⟨k + 1, m + 1, _, _, by omega, by go_num, rfl, hide (by rw [hstp.out, List.length_append, ← hm.out]; rfl), by omega, hide (by rw [hstp.out]; exact own1.out), hF3⟩
                case measure => simp [intOf]; omega
              · rw [if_neg hyes] at hstp
                replace hstp := hide hstp
                by_cases h1 : uu = u
                · have h2 : vv ≠ v := fun e => hyes ⟨h1, e⟩
                  subst h1
                  have q1 : ((uu : Int) == (uu : Int)) = true := by simp
                  have q2 : ((vv : Int) == (v : Int)) = false := by simp; omega
                  replace h2 := hide h2
                  clear hyes
                  go_wp2
                  go_roundw
                  case rel => exact ⟨k + 1, m, av, cv, by omega, by go_num, rfl, hide (by rw [hstp.out]; exact hm.out), by omega, hide (by rw [hstp.out]; exact hown2.out), hF2⟩
                  case measure => simp [intOf]; omega
                · have q1 : ((uu : Int) == (u : Int)) = false := by simp; omega
                  replace h1 := hide h1
                  clear hyes
                  go_wp2
                  go_roundw
                  case rel => exact ⟨k + 1, m, av, cv, by omega, by go_num, rfl, hide (by rw [hstp.out]; exact hm.out), by omega, hide (by rw [hstp.out]; exact hown2.out), hF2⟩
                  case measure => simp [intOf]; omega
            · obtain rfl : k = es.length := by omega
              have hs2 := hgb.out u v
              obtain ⟨S, hS⟩ : ∃ S, S = stA p u v + stA q u v := ⟨_, rfl⟩
              have hStu := hide (fun (sb : Nat) (w' : World) hb c0 c1 => hSt.out u v sb w' hb c0 c1)
              rw [← hS] at hs2 hStu
              obtain ⟨x, rfl⟩ := Int.eq_ofNat_of_zero_le hs2.1
              obtain ⟨M, hM⟩ : ∃ M, M = min m x := ⟨_, rfl⟩
              have hCu := hide (show C u v = ((srt (btC es u v es.length)).take M).sum by
                rw [hC.out]
                unfold cuv
                rw [← btC_all, ← hS, hM]
                have : (btw es u v).length = m := by rw [hm.out, btC_all, List.length_map]
                rw [this, Int.toNat_natCast])
              have hsl := hide (show (srt (btC es u v es.length)).length = m by rw [(srt_perm _).length_eq, ← hm.out])
              have htk := hide (fun k => htb.out u v k)
              clear hs2
              replace hS := hide hS
              have hm600 : m ≤ 600 := by omega
              obtain ⟨Ls, hLs⟩ : ∃ Ls, Ls = srt (btC es u v es.length) := ⟨_, rfl⟩
              rw [← hLs] at hCu htk hsl
              have hxx : (0 : Int) ≤ (x : Int) := by omega
              rcases hown.out.form with ⟨h1, h2⟩ | ⟨g, cap2, h1, hg1, hg2, _⟩
              · simp only [Value.slice.injEq] at h1
                obtain ⟨rfl, rfl, rfl⟩ := h1
                have hM0 : M = 0 := by rw [hM]; omega
                have hfin := hide (show Y = X + isum (v + 1) (fun v => C u v) by rw [hst2.out, hCu.out, hY.out, hM0]; simp)
                replace hM := hide hM
                replace hM0 := hide hM0
                replace hLs := hide hLs
                clear hown hm h2
                go_wp2_with fail
                refine (Try.slices_Sort_int_none none 0 wr).mono ?_
                rintro e w1 ⟨rfl, rfl⟩
                have hF2 := hide (hF.out.later (w' := w1.alloc (.cells #[.slice pa pl pc, .slice qa ql qc] 29)) (up_alloc (Below.refl _ _) (by omega)))
                go_wp2_with fail
                refine (hStu.out w1.heap.size _ (up_alloc hF.out.bel hF.out.bel.size) (by simp [go_sem]) (by simp [go_sem])).mono ?_
                rintro e w2 ⟨rfl, rfl⟩
                go_wp2_with fail
                go_loopw [7, 14, 62] (fun s7 _ s62 wr => s62 = .int .i64 0 ∧ s7 = .int .i64 Y ∧ Hid (CF w n es.length an cap wr)) (fun _ _ _ _ => 0)
                case atStart => exact ⟨rfl, rfl, hF2⟩
                case round =>
                  clear hF hF2
                  obtain ⟨rfl, rfl, hF⟩ := hrel
                  go_wp2
                  rw [hfin.out]
                  go_roundw
                  case rel => exact ⟨v + 1, by omega, by go_num, rfl, hF⟩
                  case measure => simp [intOf]; omega
              · simp only [Value.slice.injEq] at h1
                obtain ⟨rfl, h1b, rfl⟩ := h1
                clear h1b
                have hgb2 := hown.out.at_base
                have hcap : m ≤ cv := by
                  obtain ⟨a', c', hv2, _, h3, _⟩ := hown.out.row lenI
                  injection hv2 with q1 q2 q3
                  omega
                have hSo := hide (sort_own g cv m _ _ wr hown.out (by omega))
                rw [← hLs] at hSo
                replace hLs := hide hLs
                have hFk := hide (fun (w' : World) (hk : Keep (fun k => k = g) wr w') => hF.out.later (hk.toBelow (B := w.heap.size + 1) (fun k hk => by omega) (by omega)))
                replace hM := hide hM
                clear hown hm
                go_wp2_with fail
                refine hSo.out.mono ?_
                rintro e w1 ⟨rfl, hk1, hrow1⟩
                have hF1 := hide (hFk.out w1 hk1)
                have hF2 := hide (hF1.out.later (w' := w1.alloc (.cells #[.slice pa pl pc, .slice qa ql qc] 29)) (up_alloc (Below.refl _ _) (by have := hk1.size; omega)))
                have hrow2 := hide ((hrow1.below (up_alloc (Below.refl _ _) (Nat.le_refl _) : Below w1.heap.size w1 (w1.alloc (.cells #[.slice pa pl pc, .slice qa ql qc] 29))) (Nat.le_refl _)).mono (show w1.heap.size ≤ (w1.alloc (.cells #[.slice pa pl pc, .slice qa ql qc] 29)).heap.size by simp))
                have hcm : (m : Int) ≤ (cv : Int) := by omega
                clear hSo hFk hk1 hrow1 hF
                have hmin : (x < m) ∨ (m ≤ x) := by omega
                have hfin2 := hide (show ∀ k, k = M → Y + (Ls.take k).sum = X + isum (v + 1) (fun v => C u v) from fun k hk => by rw [hst2.out, hCu.out, hY.out, hk]; omega)
                rcases hmin with hmin | hmin
                · have hMx : x = M := by rw [hM.out]; omega
                  have hMx' := hide hMx
                  replace hfin2 := hide (hfin2.out x hMx)
                  have hk2 : x ≤ m := by omega
                  have hxc : (x : Int) ≤ (cv : Int) := by omega
                  have hxm : (x : Int) < (m : Int) := by omega
                  clear hMx
                  go_wp2_with fail
                  refine (hStu.out w1.heap.size _ (up_alloc hF1.out.bel hF1.out.bel.size) (by simp [go_sem]) (by simp [go_sem])).mono ?_
                  rintro e w2 ⟨rfl, rfl⟩
                  go_wp2_with fail
                  go_loopw [7, 14, 62] (fun s7 _ s62 wr => ∃ (k : Nat), k ≤ x ∧ s62 = .int .i64 (k : Int) ∧ s7 = .int .i64 (Y + (Ls.take k).sum) ∧ Hid (Row encI 1 wr wr.heap.size (some ⟨g, 0, none⟩) Ls) ∧ Hid (CF w n es.length an cap wr)) (fun _ _ s62 _ => x - (intOf s62).toNat)
                  case atStart => exact ⟨0, Nat.zero_le _, rfl, by simp, hrow2, hF2⟩
                  case round =>
                    clear hF2 hrow2 hF1
                    obtain ⟨k, hk, rfl, rfl, hrow2, hF⟩ := hrel
                    by_cases hkl : k < x
                    · have hkL : k < Ls.length := by rw [hsl.out]; omega
                      obtain ⟨b, o, e1, hbB, c0⟩ := hrow2.out.int k hkL
                      simp only [Option.some.injEq, Addr.mk.injEq] at e1
                      obtain ⟨rfl, rfl, _⟩ := e1
                      rw [Nat.zero_add] at c0
                      have hst4 : (Ls.take (k + 1)).sum = (Ls.take k).sum + Ls[k] := by rw [List.take_succ_eq_append_getElem hkL, List.sum_append]; simp
                      have t1 := htk.out k
                      have t2 := htk.out (k + 1)
                      rw [hst4] at t2
                      obtain ⟨y, hy⟩ : ∃ y, y = Ls[k] := ⟨_, rfl⟩
                      obtain ⟨T, hT⟩ : ∃ T, T = (Ls.take k).sum := ⟨_, rfl⟩
                      rw [← hy] at c0 hst4 t2
                      rw [← hT] at t1 t2 hst4 ⊢
                      have hwr : IntKind.i64.wrap (Y + T + y) = Y + T + y := by rw [IntKind.wrap_i64]; omega
                      have ik : (0 : Int) ≤ (k : Int) ∧ (k : Int) < (x : Int) := by omega
                      replace hst4 := hide hst4
                      replace hy := hide hy
                      replace hT := hide hT
                      go_wp2
                      go_roundw
                      case rel => exact ⟨k + 1, by omega, by go_num, by rw [hst4.out, Int.add_assoc], hrow2, hF⟩
                      case measure => simp [intOf]; omega
                    · obtain rfl : k = x := by omega
                      rw [hfin2.out]
                      go_wp2
                      go_roundw
                      case rel => exact ⟨v + 1, by omega, by go_num, rfl, hF⟩
                      case measure => simp [intOf]; omega
                · have hMx : m = M := by rw [hM.out]; omega
                  replace hfin2 := hide (hfin2.out m hMx)
                  have hxm : ¬ ((x : Int) < (m : Int)) := by omega
                  clear hMx
                  go_wp2_with fail
                  refine (hStu.out w1.heap.size _ (up_alloc hF1.out.bel hF1.out.bel.size) (by simp [go_sem]) (by simp [go_sem])).mono ?_
                  rintro e w2 ⟨rfl, rfl⟩
                  go_wp2_with fail
                  go_loopw [7, 14, 62] (fun s7 _ s62 wr => ∃ (k : Nat), k ≤ m ∧ s62 = .int .i64 (k : Int) ∧ s7 = .int .i64 (Y + (Ls.take k).sum) ∧ Hid (Row encI 1 wr wr.heap.size (some ⟨g, 0, none⟩) Ls) ∧ Hid (CF w n es.length an cap wr)) (fun _ _ s62 _ => m - (intOf s62).toNat)
                  case atStart => exact ⟨0, Nat.zero_le _, rfl, by simp, hrow2, hF2⟩
                  case round =>
                    clear hF2 hrow2 hF1
                    obtain ⟨k, hk, rfl, rfl, hrow2, hF⟩ := hrel
                    by_cases hkl : k < m
                    · have hkL : k < Ls.length := by rw [hsl.out]; omega
                      obtain ⟨b, o, e1, hbB, c0⟩ := hrow2.out.int k hkL
                      simp only [Option.some.injEq, Addr.mk.injEq] at e1
                      obtain ⟨rfl, rfl, _⟩ := e1
                      rw [Nat.zero_add] at c0
                      have hst4 : (Ls.take (k + 1)).sum = (Ls.take k).sum + Ls[k] := by rw [List.take_succ_eq_append_getElem hkL, List.sum_append]; simp
                      have t1 := htk.out k
                      have t2 := htk.out (k + 1)
                      rw [hst4] at t2
                      obtain ⟨y, hy⟩ : ∃ y, y = Ls[k] := ⟨_, rfl⟩
                      obtain ⟨T, hT⟩ : ∃ T, T = (Ls.take k).sum := ⟨_, rfl⟩
                      rw [← hy] at c0 hst4 t2
                      rw [← hT] at t1 t2 hst4 ⊢
                      have hwr : IntKind.i64.wrap (Y + T + y) = Y + T + y := by rw [IntKind.wrap_i64]; omega
                      have ik : (0 : Int) ≤ (k : Int) ∧ (k : Int) < (m : Int) := by omega
                      replace hst4 := hide hst4
                      replace hy := hide hy
                      replace hT := hide hT
                      go_wp2
                      go_roundw
                      case rel => exact ⟨k + 1, by omega, by go_num, by rw [hst4.out, Int.add_assoc], hrow2, hF⟩
                      case measure => simp [intOf]; omega
                    · obtain rfl : k = m := by omega
                      rw [hfin2.out]
                      go_wp2
                      go_roundw
                      case rel => exact ⟨v + 1, by omega, by go_num, rfl, hF⟩
                      case measure => simp [intOf]; omega
        · obtain rfl : v = n := by omega
          have hfin := hide (show X + isum v (fun v => C u v) = isum (u + 1) (fun u => isum v (fun v => C u v)) from hst1.out.symm)
          rw [hfin.out]
          go_wp2
          go_roundw
          case rel => exact ⟨u + 1, by omega, by go_num, rfl, hF⟩
          case measure => simp [intOf]; omega
    · obtain rfl : u = n := by omega
      rw [← hr2.out]
      have hbf := hF.out.bel
      replace hbf := hide hbf
      go_wp2
      go_ret
      exact ⟨rfl, hbf.out⟩
end Go.Proofs.Ytcehdpeeaogpiaa
