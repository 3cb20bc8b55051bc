/-
  What the reference's CutWalk returns. Conditions: the slice reads, at most 100 numbers, not empty.
-/
import Derived.Test.YtdpbkhempgghaaaCutP
import Derived.Test.YtdpbkhempgghaaaPushAll
import Derived.Test.YtdpbkhempgghaaaCopyN
import Derived.Test.YtdpbkhempgghaaaEdge
import Derived.BigQuiet
import Derived.Deep.QuietTactic
import Derived.LoopTactic
import Derived.WalkSpells
namespace Go.Proofs.Ytdpbkhempgghaaa
open Go.RowKit
set_option linter.unusedSimpArgs false
set_option linter.unusedVariables false
/-- a slice of one number, just built -/
theorem own_lit1 (w : World) (t : TypeId) (base : Nat) (hb : base ≤ w.heap.size) (x : Int) : Own encI 1 t (w.alloc (.cells #[.int .i64 x] t)) base (.slice (some ⟨w.heap.size, 0, none⟩) 1 1) [x] :=
  Own.ofBlock lenI (cur := [.int .i64 x]) hb rfl (by show (w.heap.push _)[w.heap.size]? = _; simp) (Nat.le_refl _) (by unfold maxLen; omega) rfl rfl
theorem Row.dropI {w : World} {B b o : Nat} {l : List Int} (h : Row encI 1 w B (some ⟨b, o, none⟩) l) (k : Nat) : Row encI 1 w B (some ⟨b, o + k, none⟩) (l.drop k) := by
  intro i hi
  rw [List.length_drop] at hi
  obtain ⟨b', o', e1, e2, e3⟩ := h (k + i) (by omega)
  simp only [Option.some.injEq, Addr.mk.injEq] at e1
  obtain ⟨rfl, rfl, _⟩ := e1
  refine ⟨b, o + k, rfl, e2, fun j u hu => ?_⟩
  have := e3 j u (by simpa using hu)
  rw [show o + (k + i) * 1 + j = o + k + i * 1 + j by omega] at this
  exact this
def CutBack (l r : List Int) (w : World) (e : Ending) (w' : World) : Prop := ∃ v, e = .returned v ∧ Own encI 1 3 w' w.heap.size v r ∧ Below w.heap.size w w'
set_option maxRecDepth 100000 in
set_option maxHeartbeats 1000000 in
theorem rcut_any (n : Nat) : ∀ (l : List Int) (a : Option Addr) (cap m : Nat) (w : World) (B : Nat), B ≤ w.heap.size → Row encI 1 w B a l → l.length = m → 0 < m → m ≤ n → m ≤ 100 → m ≤ cap → cap ≤ 9223372036854775807 →
    Calls Try.prog 16 #[.slice a m cap] w (CutBack l (cutQ n l) w) := by
  induction n with
  | zero => intro l a cap m w B _ _ _ h1 h2; omega
  | succ n ih =>
    intro l a cap m w B hB hE hm h0 hmn h1 hmc hc
    obtain ⟨b, o, rfl, hbB, e0⟩ := hE.int 0 (by omega)
    obtain ⟨x, hx⟩ : ∃ x, x = l.getD 0 0 := ⟨_, rfl⟩
    rw [show l[0] = x by rw [hx]; simp [List.getD, List.getElem?_eq_getElem (show 0 < l.length by omega)]] at e0
    have hcell := hide (show ∀ k, k < m → w.cell? ⟨b, o + k, none⟩ = some (.int .i64 (l.getD k 0)) from fun k hk => by
      obtain ⟨b', o', g1, g2, g3⟩ := hE.int k (by omega)
      simp only [Option.some.injEq, Addr.mk.injEq] at g1
      obtain ⟨rfl, rfl, _⟩ := g1
      rw [g3]
      simp [List.getD, List.getElem?_eq_getElem (show k < l.length by omega)])
    have hq := hide (show cutQ (n + 1) l = x :: cutQ n (l.drop (lastB l x m + 1)) by rw [cutQ_step (by omega), hx, hm])
    have hbl : b < w.heap.size := by omega
    have e0 : w.cell? ⟨b, o, none⟩ = some (.int .i64 x) := by simpa using e0
    have hx0 := hide (show l.getD 0 0 = x from hx.symm)
    have hR := hide (fun k (hk : k + 1 < m) (w' : World) (hb' : Below w.heap.size w w') => ih (l.drop (k + 1)) (some ⟨b, o + (k + 1), none⟩) (cap - (k + 1)) (m - (k + 1)) w' B (by have := hb'.size; omega) ((hE.dropI (k + 1)).below hb' hB) (by rw [List.length_drop]; omega) (by omega) (by omega) (by omega) (by omega) (by omega))
    replace hx := hide hx
    replace hm := hide hm
    replace hE := hide hE
    clear ih
    go_enter Try.func16, Try.ntmps16
    go_wp2
    go_loopw [3] (fun s3 wr => ∃ k q : Nat, k < m ∧ s3 = .int .i64 k ∧ Hid (wr = w.drewN q) ∧ Hid (lastB l x m = lastB l x (k + 1))) (fun s3 _ => (intOf s3).toNat)
    case atStart => exact ⟨m - 1, 0, by omega, by congr 1; omega, hide rfl, hide (by rw [show m - 1 + 1 = m by omega])⟩
    case round =>
      obtain ⟨k, q, hk, rfl, hwr, hl⟩ := hrel
      have c0 : wr.cell? ⟨b, o, none⟩ = some (.int .i64 x) := by rw [hwr.out]; exact cu_drewN (by simpa using e0)
      have ck : wr.cell? ⟨b, o + k, none⟩ = some (.int .i64 (l.getD k 0)) := by rw [hwr.out]; exact cu_drewN (hcell.out k hk)
      have hbr : b < wr.heap.size := cell_lt c0
      have ik : (0 : Int) ≤ (k : Int) ∧ (k : Int) < (m : Int) := by omega
      have im : (0 : Int) < (m : Int) := by omega
      obtain ⟨y, hy⟩ : ∃ y, y = l.getD k 0 := ⟨_, rfl⟩
      rw [← hy] at ck
      by_cases hyx : y = x
      · have hlk := hide (show lastB l x m = k by rw [hl.out]; show (if l.getD k 0 = x then k else lastB l x k) = k; rw [if_pos (by rw [← hy]; exact hyx)])
        obtain rfl : x = y := hyx.symm
        replace hy := hide hy
        have q1 : (x != x) = false := by simp
        go_wp2
        go_quiet (fail)
        obtain ⟨wx, hwx⟩ : ∃ wx : World, wx = wr.drewN nq := ⟨_, rfl⟩
        have d0 : wx.cell? ⟨b, o, none⟩ = some (.int .i64 x) := by rw [hwx]; exact cu_drewN c0
        have dl : b < wx.heap.size := cell_lt d0
        have hbx := hide (show Below w.heap.size w wx by rw [hwx, hwr.out]; exact up_drewN (up_drewN (Below.refl _ _)))
        have hzx := hbx.out.size
        simp only [← hwx]
        replace hwx := hide hwx
        clear c0 ck hbr hwr hl
        by_cases hkm : k + 1 = m
        · have q2 : ((k : Int) == (m : Int) - 1) = true := by simp; omega
          have hfin := hide (show cutQ (n + 1) l = [x] by rw [hq.out, hlk.out, List.drop_of_length_le (by rw [hm.out]; omega), cutQ_nil])
          have hO := hide (fun t => own_lit1 wx t w.heap.size hzx x)
          go_wp2
          go_ret
          exact ⟨_, rfl, by rw [hfin.out]; exact hO.out _, up_alloc hbx.out hzx⟩
        · have q2 : ((k : Int) == (m : Int) - 1) = false := by simp; omega
          have hfin := hide (show cutQ (n + 1) l = x :: cutQ n (l.drop (k + 1)) by rw [hq.out, hlk.out])
          have hRk := hide (hR.out k (by omega))
          have hlen := hide (cutQ_len n (l.drop (k + 1)))
          have hw1 : IntKind.i64.wrap ((k : Int) + 1) = (k : Int) + 1 := by rw [IntKind.wrap_i64]; omega
          have hw2 : (0 : Int) ≤ (k : Int) + 1 := by omega
          have hw3 : (k : Int) + 1 ≤ (m : Int) := by omega
          have hw4 : ((k : Int) + 1).toNat = k + 1 := by omega
          have hw5 : ¬ (cap = k + 1) := by omega
          go_wp2
          obtain ⟨p, hp⟩ : ∃ p, p = (cutQ n (l.drop (k + 1))).length := ⟨_, rfl⟩
          have hp2 : p ≤ 100 := by have := hlen.out; rw [← hp, List.length_drop, hm.out] at this; omega
          replace hp := hide hp
          go_region_law (first
            | (go_simp; go_at_call 16; refine (hRk.out _ (by first | exact up_drew hbx.out | exact up_drew (up_alloc hbx.out hzx))).mono ?_; rintro e w1 ⟨v, rfl, own1, hb1⟩; obtain ⟨a1, c1, rfl⟩ := own1.shape hp.out.symm; (try have own0 := hide (((own_lit1 wx 3 w.heap.size hzx x).drew).stays hb1)); have hbx1 : Below w.heap.size w w1 := (by first | exact (up_drew hbx.out).trans (hb1.mono (by simp; omega)) | exact (up_drew (up_alloc hbx.out hzx)).trans (hb1.mono (by simp; omega))); have hz1 := hbx1.size; have d1 := cu_below hbx1 e0 hbl; have dl1 := cell_lt d1; replace hbx1 := hide hbx1; have hr1 : Row encI 1 w1 w1.heap.size a1 (cutQ n (l.drop (k + 1))) := by { obtain ⟨a', c', hv', hr', _⟩ := own1.row lenI; injection hv' with g1 g2 g3; subst g1; exact hr' }; replace hr1 := hide hr1; replace own1 := hide own1; replace hb1 := hide hb1)
            | (refine step_pushAll (enc := encI) (base := w.heap.size) rfl (.tmp 29) (.tmp 34) 22 rfl _ 8 Try.underlying22 info_int rfl (by omega) lenI oneI 1 rfl rfl (by first | exact own0.out | exact own_lit1 w1 3 w.heap.size hz1 x) w1.heap.size a1 p c1 (cutQ n (l.drop (k + 1))) hp.out.symm rfl (by first | exact hr1.out | exact hr1.out.below ((Below.refl _ _).alloc (Nat.le_refl _) _) (Nat.le_refl _)) (by omega) (by unfold maxLen; omega) (by first | omega | (simp; omega)) ?_; intro a2 c2 w2 own2 hb2 hg2))
          all_goals
            have hO := hide (show Own encI 1 3 w2 w.heap.size (.slice a2 (1 + p) c2) (cutQ (n + 1) l) by rw [hfin.out]; exact own2)
            have hB := hide (show Below w.heap.size w w2 by first | exact hbx1.out.trans hb2 | exact hbx1.out.trans (unalloc hb2 (by omega)))
            clear own2 hb2 hg2
            go_wp2
            go_ret
            exact ⟨_, rfl, hO.out, hB.out⟩
      · have hlk := hide (show lastB l x m = lastB l x k by rw [hl.out]; show (if l.getD k 0 = x then k else lastB l x k) = _; rw [if_neg (by rw [← hy]; exact hyx)])
        have hk0 : 0 < k := by
          rcases Nat.eq_zero_or_pos k with h | h
          · exact absurd (by rw [hy, h]; exact hx0.out) hyx
          · exact h
        replace hy := hide hy
        have q1 : (y != x) = true := by simp [hyx]
        clear hyx
        go_wp2
        go_quiet (fail)
        go_wp2
        go_roundw
        case rel => exact ⟨k - 1, q + nq, by omega, by congr 1; omega, hide (by rw [hwr.out]; simp), hide (by rw [hlk.out, show k - 1 + 1 = k by omega])⟩
        case measure => simp [intOf]; omega
end Go.Proofs.Ytdpbkhempgghaaa
