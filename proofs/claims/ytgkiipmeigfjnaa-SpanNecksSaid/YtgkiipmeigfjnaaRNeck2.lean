/-
  What the reference's Neck returns. Conditions: a right net, places in bounds.
-/
import Derived.Test.YtgkiipmeigfjnaaRNeck
namespace Go.Proofs.Ytgkiipmeigfjnaa
open Go.RowKit
set_option linter.unusedSimpArgs false
set_option linter.unusedVariables false
/-- a neck and an error handed back -/
def NeckBack (es : List Ed) (a b : Nat) (w : World) (e : Ending) (w' : World) : Prop := ∃ best x, e = .returned (.tuple #[.int .i64 best, .int .i64 x]) ∧ NeckAns (JN es a b) es best x ∧ Below w.heap.size w w'
theorem neck_x {J : Int → Prop} {es : List Ed} {best x : Int} (h : NeckAns J es best x) : x = 0 ∨ x = 5 := by
  rcases h with ⟨h1, _⟩ | ⟨h1, _⟩
  · exact .inr h1
  · exact .inl h1
set_option maxRecDepth 100000 in
set_option maxHeartbeats 4000000 in
theorem rneck_any (n a b : Nat) (an : Option Addr) (cap : Nat) (es : List Ed) (w : World) (B : Nat) (hB : B ≤ w.heap.size) (hE : Row encE 3 w B an es) (hn : n ≤ 64) (hl : es.length ≤ 600) (hes : Right n es) (ha : a < n) (hb : b < n) :
    Calls Try.prog 26 #[.agg #[.int .i64 (n : Int), .slice an es.length cap], .int .i64 (a : Int), .int .i64 (b : Int)] w (NeckBack es a b w) := by
  have hJ := hide (fun c al cl q (hq : (idxT c es es.length).length = q) w B hB hE hL => rjoined_any n an cap es al cl q (idxT c es es.length) a b w B hB hE hL hq (by have := idxT_len c es es.length; omega) hn hes (fun x hx => by obtain ⟨i, h1, h2, _⟩ := idxT_mem.1 hx; exact ⟨i, h1, h2⟩) hl ha hb)
  replace hE := hide hE
  replace hes := hide hes
  go_enter Try.func26, Try.ntmps26
  go_wp2
  obtain ⟨w0, h0⟩ : ∃ w0, w0 = w.alloc (.cells #[.int .i64 (n : Int), .slice an es.length cap] 24) := ⟨_, rfl⟩
  have hB0 := hide (show Below w.heap.size w w0 by rw [h0]; exact (Below.refl _ _).alloc (Nat.le_refl _) _)
  have c0 : w0.cell? ⟨w.heap.size, 0, none⟩ = some (.int .i64 (n : Int)) := by rw [h0]; simp [go_sem]
  have c1 : w0.cell? ⟨w.heap.size, 1, none⟩ = some (.slice an es.length cap) := by rw [h0]; simp [go_sem]
  have hz0 : w.heap.size < w0.heap.size := cell_lt c0
  simp only [← h0]
  replace h0 := hide h0
  go_loopw [8, 9, 11, 12, 13, 14, 18] (fun s8 s9 _ _ _ _ i wr => ∃ (k : Nat) (best x : Int), k ≤ es.length ∧ i = .int .i64 k ∧ s8 = .int .i64 best ∧ s9 = .int .i64 x ∧ Hid (NeckAns (JN es a b) (es.take k) best x) ∧ Hid (Below w0.heap.size w0 wr)) (fun _ _ _ _ _ _ i _ => es.length - (intOf i).toNat)
  case atStart => exact ⟨0, 0, 5, Nat.zero_le _, rfl, rfl, rfl, hide (by simpa using neck_start (JN es a b)), hide (Below.refl _ _)⟩
  case round =>
    obtain ⟨k, best, x, hk, rfl, rfl, rfl, hN, hbr⟩ := hrel
    have hzr := hbr.out.size
    have hbw := hide (hB0.out.trans (hbr.out.mono (by omega)))
    have k0 := cu_below hbr.out c0 (by simpa using hz0)
    have k1 := cu_below hbr.out c1 (by simpa using hz0)
    have hzx : w.heap.size < wr.heap.size := by omega
    clear c0 c1
    by_cases hlt : k < es.length
    · obtain ⟨eb, eo, rfl, heb, q0, q1, q2⟩ := hE.out.ed k hlt
      have q0 := cu_below hbw.out q0 (by simp; omega)
      have q1 := cu_below hbw.out q1 (by simp; omega)
      have q2 := cu_below hbw.out q2 (by simp; omega)
      have hebx : eb < wr.heap.size := by omega
      obtain ⟨ek, hek⟩ : ∃ ek, ek = es[k] := ⟨_, rfl⟩
      have htake := hide (fun (best x : Int) (h : NeckAns (JN es a b) (es.take k) best x) => (⟨fun hj hq => by rw [hek]; rw [hek] at hj hq; exact neck_take hlt h hj hq, fun hq => by rw [hek] at hq; exact neck_keep hlt h hq⟩ : (JN es a b ek.c → (x ≠ 0 ∨ ek.c < best) → NeckAns (JN es a b) (es.take (k + 1)) ek.c 0) ∧ ((¬ JN es a b ek.c ∨ (x = 0 ∧ best ≤ ek.c)) → NeckAns (JN es a b) (es.take (k + 1)) best x)))
      rw [← hek] at q0 q1 q2
      have hec := hide (hes.out es[k] (List.getElem_mem hlt))
      rw [← hek] at hec
      replace hek := hide hek
      have ik : (0 : Int) ≤ (k : Int) ∧ (k : Int) < (es.length : Int) := by omega
      obtain ⟨wx, hwx⟩ : ∃ wx, wx = wr.alloc (.cells #[.int .i64 ek.u, .int .i64 ek.v, .int .i64 ek.c] 26) := ⟨_, rfl⟩
      have hbx : Below wr.heap.size wr wx := by rw [hwx]; exact (Below.refl _ _).alloc (Nat.le_refl _) _
      have x2 : wx.cell? ⟨wr.heap.size, 2, none⟩ = some (.int .i64 ek.c) := by rw [hwx]; simp [go_sem]
      have x0 := cu_below hbx k0 (by simpa using hzx)
      have x1 := cu_below hbx k1 (by simpa using hzx)
      have hzy : wr.heap.size < wx.heap.size := by have := cell_lt x2; simpa using this
      have hbwx := hide (hbw.out.trans (hbx.mono hbw.out.size))
      have hbrx := hide (hbr.out.trans (hbx.mono hzr))
      clear hbx
      replace hwx := hide hwx
      obtain ⟨wo, rfl⟩ : ∃ wo : World, wo = wr := ⟨_, rfl⟩
      go_wp2
      simp only [← hwx.out]
      clear k0 k1 q0 q1 q2
      go_loopw [12, 13, 14, 25] (fun s12 _ _ i wr => ∃ (j p : Nat) (av : Option Addr) (cv : Nat), j ≤ es.length ∧ p ≤ j ∧ i = .int .i64 j ∧ s12 = .slice av p cv ∧ Hid ((idxT ek.c es j).length = p) ∧ Hid (Own encI 1 3 wr wx.heap.size (.slice av p cv) (idxT ek.c es j)) ∧ Hid (Below wx.heap.size wx wr)) (fun _ _ _ i _ => es.length - (intOf i).toNat)
      case atStart => exact ⟨0, 0, none, 0, Nat.zero_le _, Nat.le_refl _, rfl, rfl, hide rfl, hide (Own.nil _ _), hide (Below.refl _ _)⟩
      case round =>
        obtain ⟨j, p, av, cv, hj, hp, rfl, rfl, hpl, own, hb2⟩ := hrel
        have hz2 := hb2.out.size
        have y2 := cu_below hb2.out x2 (by simpa using hzy)
        have y0 := cu_below hb2.out x0 (by simp; omega)
        have y1 := cu_below hb2.out x1 (by simp; omega)
        have hzw : wo.heap.size < wr.heap.size := by omega
        have hzv : w.heap.size < wr.heap.size := by omega
        have hbwr := hide (hbwx.out.trans (hb2.out.mono hbwx.out.size))
        clear x0 x1 x2
        by_cases hjl : j < es.length
        · obtain ⟨eb2, eo2, hee, heb2, r0, r1, r2⟩ := hE.out.ed j hjl
          simp only [Option.some.injEq, Addr.mk.injEq] at hee
          obtain ⟨rfl, rfl, _⟩ := hee
          have r0 := cu_below hbwr.out r0 (by simp; omega)
          have r1 := cu_below hbwr.out r1 (by simp; omega)
          have r2 := cu_below hbwr.out r2 (by simp; omega)
          have hebr : eb < wr.heap.size := by omega
          have hidx := hide (idxT_succ ek.c es j)
          rw [edAt_c hjl] at hidx
          obtain ⟨ej, hej⟩ : ∃ ej, ej = es[j] := ⟨_, rfl⟩
          rw [← hej] at r0 r1 r2 hidx
          replace hej := hide hej
          have ij : (0 : Int) ≤ (j : Int) ∧ (j : Int) < (es.length : Int) := by omega
          by_cases hle : ej.c ≤ ek.c
          · have hid2 := hide (show idxT ek.c es (j + 1) = idxT ek.c es j ++ [(j : Int)] by rw [hidx.out, if_pos hle])
            clear hidx
            go_wp2_with (at_builtin; (refine wpList_push (e := 3) (enc := encI) (xs := idxT ek.c es j) (v := .slice av (p) cv) (base := wx.heap.size) rfl (.tmp 35) (.tmp 37) 34 rfl _ 8 Try.underlying34 info_int rfl ?d11 lenI oneI (p) ?d21 ?d31 ?d41 ⟨wr.heap.size + 1, 0, none⟩ 1 (j : Int) ?d51 ?d61 ?d71 ?d81 ?d91 ?_); (case d11 => omega); (case d21 => exact hpl.out); (case d31 => rfl); (case d41 => exact (own.out.alloc _).alloc _); (case d51 => rfl); (case d61 => exact newI _ _ _ _ (by simp)); (case d71 => omega); (case d81 => unfold maxLen; omega); (case d91 => first | omega | (simp; done) | (simp; omega)); intro g1 c1 w1 own1 hb1 hgr1 hg1 hgl1; have hB1 := hide (unalloc (unalloc hb1 (by simp; omega)) (by omega)); replace own1 := hide own1; replace hb1 := hide hb1; replace hgr1 := hide hgr1)
            go_roundw
            case rel => exact ⟨j + 1, p + 1, _, _, by omega, by omega, by go_num, rfl, hide (by rw [hid2.out, List.length_append, hpl.out]; rfl), hide (by rw [hid2.out]; exact own1.out), hide (hb2.out.trans hB1.out)⟩
            case measure => simp [intOf]; omega
          · have hid2 := hide (show idxT ek.c es (j + 1) = idxT ek.c es j by rw [hidx.out, if_neg hle])
            clear hidx
            go_wp2
            go_roundw
            case rel => exact ⟨j + 1, p, av, cv, by omega, by omega, by go_num, rfl, hide (by rw [hid2.out]; exact hpl.out), hide (by rw [hid2.out]; exact own.out.alloc _), hide (hb2.out.alloc hz2 _)⟩
            case measure => simp [intOf]; omega
        · obtain rfl : j = es.length := by omega
          obtain ⟨a', c', hv', hrp, _⟩ := own.out.row lenI
          injection hv' with g1 g2 g3
          subst g1 g3
          clear g2
          replace hrp := hide hrp
          go_wp2_with fail
          refine (hJ.out ek.c av cv p hpl.out wr wr.heap.size (Nat.le_refl _) ((hE.out.below hbwr.out hB).mono (by omega)) hrp.out).mono ?_
          rintro e w5 ⟨t, rfl, ht, hb5⟩
          have ht2 := hide (ht.trans conn_idx)
          have z2 := cu_below hb5 y2 (by simp; omega)
          have z0 := cu_below hb5 y0 (by simp; omega)
          have z1 := cu_below hb5 y1 (by simp; omega)
          have hz5 := hb5.size
          have hbf := hide (hbrx.out.trans ((hb2.out.trans (hb5.mono hz2)).mono (by omega)))
          have hzw5 : wo.heap.size < w5.heap.size := by omega
          clear ht hb5 y0 y1 y2
          have hxx := neck_x hN.out
          cases t with
          | false =>
            have hN2 := hide ((htake.out best x hN.out).2 (.inl (fun h => by have := ht2.out.2 h; cases this)))
            clear hxx
            go_wp2
            go_roundw
            case rel => exact ⟨k + 1, best, x, by omega, by go_num, rfl, rfl, hN2, hbf⟩
            case measure => simp [intOf]; omega
          | true =>
            have hj2 := hide (ht2.out.1 rfl)
            rcases hxx with rfl | rfl
            · by_cases hlt2 : ek.c < best
              · have hN2 := hide ((htake.out best 0 hN.out).1 hj2.out (.inr hlt2))
                go_wp2
                go_roundw
                case rel => exact ⟨k + 1, _, 0, by omega, by go_num, rfl, rfl, hN2, hbf⟩
                case measure => simp [intOf]; omega
              · have hN2 := hide ((htake.out best 0 hN.out).2 (.inr ⟨rfl, by omega⟩))
                go_wp2
                go_roundw
                case rel => exact ⟨k + 1, best, 0, by omega, by go_num, rfl, rfl, hN2, hbf⟩
                case measure => simp [intOf]; omega
            · have hN2 := hide ((htake.out best 5 hN.out).1 hj2.out (.inl (by omega)))
              go_wp2
              go_roundw
              case rel => exact ⟨k + 1, _, 0, by omega, by go_num, rfl, rfl, hN2, hbf⟩
              case measure => simp [intOf]; omega
    · obtain rfl : k = es.length := by omega
      have hN2 := hN.out
      rw [List.take_length] at hN2
      replace hN2 := hide hN2
      go_wp2
      go_ret2
      exact ⟨best, x, rfl, hN2.out, hbw.out⟩
end Go.Proofs.Ytgkiipmeigfjnaa
