/-
  What star.Run returns. Conditions: that the arguments read.
-/
import Derived.Test.YtcehdpeeaogpiaaStarS
import Derived.Test.YtcehdpeeaogpiaaSLook
namespace Go.Proofs.Ytcehdpeeaogpiaa
open Go.RowKit
set_option linter.unusedSimpArgs false
set_option linter.unusedVariables false
def keyAdd (c g : Int) : Int := c + g
theorem keyRunS (w : World) : KeyFnS keyAdd w := by
  intro c g h1 h2 h3 h4
  go_enter Try.func93, Try.ntmps93
  go_wp2
  go_ret
  exact ⟨rfl, rfl⟩
theorem srun_bad (N : Int) (a : Option Addr) (cap : Nat) (es : List Ed) (x1 x2 : Int) (ah : Option Addr) (ch : Nat) (h : List Int) (w : World) (B : Nat) (hB : B ≤ w.heap.size) (hE : Row encE 3 w B a es) (hH : Row encI 1 w B ah h) (hl : es.length ≤ 9223372036854775807) (hl2 : h.length ≤ 9223372036854775807) (h0 : slookErr N es x1 x2 h ≠ 0) :
    Calls Try.prog 24 #[.agg #[.int .i64 N, .slice a es.length cap], .int .i64 x1, .int .i64 x2, .slice ah h.length ch] w fun e w' => e = .returned (.tuple #[FoundNone, .int .i64 (slookErr N es x1 x2 h)]) ∧ Below w.heap.size w w' := by
  have hC := hide (fun (w' : World) (hb : Below w.heap.size w w') => slook_any N a cap es x1 x2 ah ch h w' B (Nat.le_trans hB hb.size) (hE.below hb hB) (hH.below hb hB) hl hl2)
  obtain ⟨er, her⟩ : ∃ er, er = slookErr N es x1 x2 h := ⟨_, rfl⟩
  rw [← her] at h0 hC ⊢
  have q0 : (er != 0) = true := by simpa using h0
  replace her := hide her
  clear hE hH h0
  go_enter Try.func24, Try.ntmps24
  go_wp2_with fail
  refine (hC.out _ (by exact (by repeat (first | with_reducible exact Below.refl _ _ | with_reducible assumption | with_reducible refine up_drewN ?_ | with_reducible refine up_drew ?_ | (with_reducible refine up_alloc ?_ ?_; rotate_left; (first | omega | (simp <;> omega) | simp)) | (with_reducible refine up_set ?_ ?_; rotate_left; (first | omega | (simp <;> omega) | simp)) | (with_reducible refine Below.trans ?_ (Below.mono (by with_reducible assumption) ?_); rotate_left; (first | omega | (simp <;> omega) | simp)))))).mono ?_
  rintro e w1 ⟨rfl, hb1⟩
  have k0 := cu_below hb1 (p := ⟨w.heap.size + 1, 0, none⟩) (v := .slice none 0 0) (by simp [go_sem]) (by simp)
  have k1 := cu_below hb1 (p := ⟨w.heap.size + 1, 1, none⟩) (v := .int .i64 0) (by simp [go_sem]) (by simp)
  have k2 := cu_below hb1 (p := ⟨w.heap.size + 1, 2, none⟩) (v := .slice none 0 0) (by simp [go_sem]) (by simp)
  have f0 := fu_below hb1 (p := ⟨w.heap.size + 1, 0, none⟩) (by simp [go_sem]) (by simp)
  have f1 := fu_below hb1 (p := ⟨w.heap.size + 1, 1, none⟩) (by simp [go_sem]) (by simp)
  have f2 := fu_below hb1 (p := ⟨w.heap.size + 1, 2, none⟩) (by simp [go_sem]) (by simp)
  have hb2 := hide ((((by repeat (first | with_reducible exact Below.refl _ _ | with_reducible assumption | with_reducible refine up_drewN ?_ | with_reducible refine up_drew ?_ | (with_reducible refine up_alloc ?_ ?_; rotate_left; (first | omega | (simp <;> omega) | simp)) | (with_reducible refine up_set ?_ ?_; rotate_left; (first | omega | (simp <;> omega) | simp)) | (with_reducible refine Below.trans ?_ (Below.mono (by with_reducible assumption) ?_); rotate_left; (first | omega | (simp <;> omega) | simp)))) : Below w.heap.size w _)).trans (hb1.mono (by simp; omega)))
  clear hb1
  go_wp2
  refine bodyPost_ret (v := .tuple #[FoundNone, .int .i64 er]) (by simp [results, Try.results24, go_sem, FoundNone, k0, k1, k2, f0, f1, f2]) rfl ?_
  exact ⟨rfl, ((hb2.out.setCell (by simp) _).setCell (by simp) _).setCell (by simp) _⟩
theorem FoundAns.trans {key : Int → Int → Int} {E : List NE} {h : Nat → Int} {n tg : Nat} {s0 : SR} {w w0 w' : World} {e : Ending} (hh : FoundAns key E h n tg s0 w0 e w') (hb : Below w.heap.size w w0) : FoundAns key E h n tg s0 w e w' := by
  obtain ⟨o, h1, h2, h3⟩ := hh
  refine ⟨o, h1, hb.trans (h2.mono hb.size), ?_⟩
  cases o with
  | none => exact h3
  | some s =>
    obtain ⟨l, a, k, b, c, g1, g2, g3, g4⟩ := h3
    exact ⟨l, a, k, b, c, g1, g2, g3.base_le hb.size, g4.base_le hb.size⟩
set_option maxHeartbeats 1000000 in
theorem srun_ok (n v t : Nat) (a : Option Addr) (cap : Nat) (es : List Ed) (ah : Option Addr) (ch : Nat) (h : List Int) (w : World) (B : Nat) (hB : B ≤ w.heap.size) (hE : Row encE 3 w B a es) (hH : Row encI 1 w B ah h) (hl : es.length ≤ 9223372036854775807) (hl2 : h.length ≤ 9223372036854775807) (h0 : slookErr (n : Int) es (v : Int) (t : Int) h = 0) :
    Calls Try.prog 24 #[.agg #[.int .i64 (n : Int), .slice a es.length cap], .int .i64 (v : Int), .int .i64 (t : Int), .slice ah h.length ch] w (FoundAns keyAdd (nes es) (hAt h) n t (sStart (hAt h) v) w) := by
  have hC := hide (fun (w' : World) (hb : Below w.heap.size w w') => slook_any (n : Int) a cap es (v : Int) (t : Int) ah ch h w' B (Nat.le_trans hB hb.size) (hE.below hb hB) (hH.below hb hB) hl hl2)
  obtain ⟨n', v', t', e1, e2, e3, a1, a2, a3, a4, a5, a6, a7, a8, a9, a10, a11⟩ := slook_all h0
  obtain rfl : n = n' := by omega
  obtain rfl : v = v' := by omega
  obtain rfl : t = t' := by omega
  rw [h0] at hC
  have hS := hide (fun (w' : World) (hb : Below w.heap.size w w') => search_anyS n v t a ah cap ch es (hAt h) w' B (Nat.le_trans hB hb.size) (hE.below hb hB) (by have := li_hAt h; rw [a8] at this; rw [this]; exact hH.below hb hB) a1 a2 a3 a4 a5 a6 a7 (fun u _ => a9 u) keyAdd (fun c d g hcd => by unfold keyAdd; omega) (fun w'' _ => keyRunS w''))
  rw [a8] at hC ⊢
  clear hE hH h0 a4 a5 a9 a10 a11 a8 e1 e2 e3
  go_enter Try.func24, Try.ntmps24
  go_wp2_with fail
  refine (hC.out _ (by exact (by repeat (first | with_reducible exact Below.refl _ _ | with_reducible assumption | with_reducible refine up_drewN ?_ | with_reducible refine up_drew ?_ | (with_reducible refine up_alloc ?_ ?_; rotate_left; (first | omega | (simp <;> omega) | simp)) | (with_reducible refine up_set ?_ ?_; rotate_left; (first | omega | (simp <;> omega) | simp)) | (with_reducible refine Below.trans ?_ (Below.mono (by with_reducible assumption) ?_); rotate_left; (first | omega | (simp <;> omega) | simp)))))).mono ?_
  rintro e w1 ⟨rfl, hb1⟩
  have k3 := cu_below hb1 (p := ⟨w.heap.size, 0, none⟩) (v := .int .i64 (n : Int)) (by simp [go_sem]) (by simp; omega)
  have k4 := cu_below hb1 (p := ⟨w.heap.size, 1, none⟩) (v := .slice a es.length cap) (by simp [go_sem]) (by simp; omega)
  have k0 := cu_below hb1 (p := ⟨w.heap.size + 1, 0, none⟩) (v := .slice none 0 0) (by simp [go_sem]) (by simp)
  have k1 := cu_below hb1 (p := ⟨w.heap.size + 1, 1, none⟩) (v := .int .i64 0) (by simp [go_sem]) (by simp)
  have k2 := cu_below hb1 (p := ⟨w.heap.size + 1, 2, none⟩) (v := .slice none 0 0) (by simp [go_sem]) (by simp)
  have f0 := fu_below hb1 (p := ⟨w.heap.size + 1, 0, none⟩) (by simp [go_sem]) (by simp)
  have f1 := fu_below hb1 (p := ⟨w.heap.size + 1, 1, none⟩) (by simp [go_sem]) (by simp)
  have f2 := fu_below hb1 (p := ⟨w.heap.size + 1, 2, none⟩) (by simp [go_sem]) (by simp)
  have hb2 := hide ((((by repeat (first | with_reducible exact Below.refl _ _ | with_reducible assumption | with_reducible refine up_drewN ?_ | with_reducible refine up_drew ?_ | (with_reducible refine up_alloc ?_ ?_; rotate_left; (first | omega | (simp <;> omega) | simp)) | (with_reducible refine up_set ?_ ?_; rotate_left; (first | omega | (simp <;> omega) | simp)) | (with_reducible refine Below.trans ?_ (Below.mono (by with_reducible assumption) ?_); rotate_left; (first | omega | (simp <;> omega) | simp)))) : Below w.heap.size w _)).trans (hb1.mono (by simp; omega)))
  have hzw : w.heap.size + 1 < w1.heap.size := cell_lt k0
  clear hb1
  go_wp2_with fail
  refine (hS.out _ hb2.out).mono ?_
  rintro e w2 hA
  obtain ⟨o, ho, hb3, hans⟩ := hA
  have k0 := cu_below hb3 k0 (by simp; omega)
  have k1 := cu_below hb3 k1 (by simp; omega)
  have k2 := cu_below hb3 k2 (by simp; omega)
  have f0 := fu_below hb3 f0 (by simp; omega)
  have f1 := fu_below hb3 f1 (by simp; omega)
  have f2 := fu_below hb3 f2 (by simp; omega)
  have hb4 := hide (hb2.out.trans (hb3.mono hb2.out.size))
  replace ho := hide ho
  clear hb3 hS hC
  cases o with
  | none =>
    dsimp only at hans
    subst hans
    unfold FoundNone
    go_wp2
    refine bodyPost_ret (v := .tuple #[FoundNone, .int .i64 5]) (by simp [results, Try.results24, go_sem, FoundNone, k0, k1, k2, f0, f1, f2]) rfl ?_
    exact ⟨none, ho.out, ((hb4.out.setCell (by simp) _).setCell (by simp) _).setCell (by simp) _, rfl⟩
  | some s =>
    obtain ⟨l, la, lk, lb, lc, hch, rfl, hr1, hr2⟩ := hans
    have hzw2 : w.heap.size + 1 < w2.heap.size := cell_lt k0
    obtain ⟨cst, hcst⟩ : ∃ c, c = s.cost t := ⟨_, rfl⟩
    rw [← hcst]
    replace hcst := hide hcst
    replace hr1 := hide hr1
    replace hr2 := hide hr2
    replace hch := hide hch
    go_wp2
    refine bodyPost_ret (v := .tuple #[.agg #[.slice la l.length lk, .int .i64 cst, .slice lb s.ord.length lc], .int .i64 0]) (by simp [results, Try.results24, go_sem, k0, k1, k2, f0, f1, f2]) rfl ?_
    refine ⟨some s, ho.out, ((hb4.out.setCell (by simp) _).setCell (by simp) _).setCell (by simp) _, l, la, lk, lb, lc, hch.out, by rw [hcst.out], ?_, ?_⟩
    · exact (((hr1.out.setCell hzw _).setCell hzw _).setCell hzw _).base_le hb2.out.size
    · exact (((hr2.out.setCell hzw _).setCell hzw _).setCell hzw _).base_le hb2.out.size
end Go.Proofs.Ytcehdpeeaogpiaa
