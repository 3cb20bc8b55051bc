/-
  What the reference's Reach returns, over any edge. Conditions: a right net.
-/
import Derived.Test.YtcehdpeeaogpiaaPlainB
import Derived.Test.YtcehdpeeaogpiaaBase
import Derived.BigQuiet
import Derived.Deep.QuietTactic
import Derived.WalkSpells
import Derived.WalkLawsBesides
import Derived.ChangeAlike
import Derived.RegionTactic
namespace Go.Proofs.Ytcehdpeeaogpiaa
open Go.RowKit
set_option linter.unusedSimpArgs false
set_option linter.unusedVariables false
set_option maxHeartbeats 400000 in
theorem isAny_any (x y z : Int) (w : World) : Calls Try.prog 102 #[.agg #[.int .i64 x, .int .i64 y, .int .i64 z]] w fun e w' => e = .returned (.bool true) ∧ Below w.heap.size w w' := by
  go_enter Try.func102, Try.ntmps102
  go_wp2
  go_ret
  exact ⟨rfl, (by repeat (first | with_reducible exact Below.refl _ _ | with_reducible assumption | with_reducible refine up_drewN ?_ | with_reducible refine up_drew ?_ | (with_reducible refine up_alloc ?_ ?_; rotate_left; (first | omega | (simp <;> omega) | simp)) | (with_reducible refine up_set ?_ ?_; rotate_left; (first | omega | (simp <;> omega) | simp)) | (with_reducible refine Below.trans ?_ (Below.mono (by with_reducible assumption) ?_); rotate_left; (first | omega | (simp <;> omega) | simp))))⟩
def TInv (w : World) (n : Nat) (a : Option Addr) (len cap : Nat) (f : Nat → Bool) (wr : World) : Prop :=
  wr.cell? ⟨w.heap.size, 0, none⟩ = some (.int .i64 (n : Int)) ∧ wr.cell? ⟨w.heap.size, 1, none⟩ = some (.slice a len cap) ∧ Own encB 1 4 wr w.heap.size (.slice (some ⟨w.heap.size + 1, 0, none⟩) n n) (RW n f) ∧ Below w.heap.size w wr
section
variable {w : World} {n : Nat} {a : Option Addr} {len cap : Nat} {f : Nat → Bool} {wr : World}
theorem TInv.later (h : TInv w n a len cap f wr) {wr' : World} (hb : Below wr.heap.size wr wr') : TInv w n a len cap f wr' := ⟨(hb.cell (cell_lt h.1)).trans h.1, (hb.cell (cell_lt h.2.1)).trans h.2.1, h.2.2.1.below hb (Nat.le_refl _), h.2.2.2.trans (hb.mono h.2.2.2.size)⟩
theorem TInv.alloc (h : TInv w n a len cap f wr) (o : Obj) : TInv w n a len cap f (wr.alloc o) := h.later ((Below.refl _ _).alloc (Nat.le_refl _) o)
theorem TInv.at (h : TInv w n a len cap f wr) (i : Nat) (hi : i < n) : wr.cell? ⟨w.heap.size + 1, i, none⟩ = some (.bool (f i)) := by
  have := h.2.2.1.getB i (by rw [rw_len]; exact hi)
  rw [rw_get] at this
  exact this
theorem TInv.set (h : TInv w n a len cap f wr) (i : Nat) (hi : i < n) (x : Bool) : TInv w n a len cap (upz f i x) (wr.setCell ⟨w.heap.size + 1, i, none⟩ (.bool x)) := by
  have h5 := h.2.2.1.putB i (by rw [rw_len]; exact hi) x
  rw [rw_set] at h5
  exact ⟨cu_set h.1 (by simp), cu_set h.2.1 (by simp), h5, h.2.2.2.setCell (by simp) _⟩
end
theorem rep_bool (n : Nat) : List.replicate n false = RW n (fun _ => false) := rw_rep n false
theorem only_set (v : Nat) : upz (fun _ => false) v true = only v := by
  funext u; simp [upz, only]
theorem tinv_start {w w1 : World} {n : Nat} {a : Option Addr} {len cap : Nat} (own : Own encB 1 4 w1 w.heap.size (.slice (some ⟨(w.alloc (.cells #[.int .i64 (n : Int), .slice a len cap] 24)).heap.size, 0, none⟩) n n) (List.replicate n false))
    (hb : Below (w.alloc (.cells #[.int .i64 (n : Int), .slice a len cap] 24)).heap.size (w.alloc (.cells #[.int .i64 (n : Int), .slice a len cap] 24)) w1) : TInv w n a len cap (fun _ => false) w1 := by
  have e0 : (w.alloc (.cells #[.int .i64 (n : Int), .slice a len cap] 24)).cell? ⟨w.heap.size, 0, none⟩ = some (.int .i64 (n : Int)) := by simp [go_sem]
  have e1 : (w.alloc (.cells #[.int .i64 (n : Int), .slice a len cap] 24)).cell? ⟨w.heap.size, 1, none⟩ = some (.slice a len cap) := by simp [go_sem]
  have hs : (w.alloc (.cells #[.int .i64 (n : Int), .slice a len cap] 24)).heap.size = w.heap.size + 1 := by simp
  rw [hs] at own
  rw [rep_bool] at own
  exact ⟨(hb.cell (cell_lt e0)).trans e0, (hb.cell (cell_lt e1)).trans e1, own, (up_alloc (Below.refl _ _) (Nat.le_refl _)).trans (hb.mono (by simp))⟩
set_option maxRecDepth 100000 in
set_option maxHeartbeats 2000000 in
theorem rreach_any (n : Nat) (a : Option Addr) (cap : Nat) (es : List Ed) (v0 : Nat) (w : World) (B : Nat) (hB : B ≤ w.heap.size) (hE : Row encE 3 w B a es) (hn1 : 1 ≤ n) (hn : n ≤ 64) (hl : es.length ≤ 600) (hes : Right n es) (hv0 : v0 < n) :
    Calls Try.prog 101 #[.agg #[.int .i64 (n : Int), .slice a es.length cap], .int .i64 (v0 : Int), .func (.func 102) #[] #[]] w fun e w' => ∃ g, e = .returned (.slice (some ⟨g, 0, none⟩) n n) ∧ Own encB 1 4 w' w.heap.size (.slice (some ⟨g, 0, none⟩) n n) (RW n (rreach (nes es) (fun _ => true) (only v0) n)) ∧ Below w.heap.size w w' := by
  replace hE := hide hE
  replace hes := hide hes
  have i1 : (0 : Int) ≤ (v0 : Int) ∧ (v0 : Int) < (n : Int) := by omega
  go_enter Try.func101, Try.ntmps101
  go_wp2_with (at_make; (refine wpList_mk (e := 4) (enc := encB) rfl (.tmp 11) 52 rfl (.bool false) 1 false Try.underlying52 info_bool rfl rfl (n) ?e11 ?e21 ?e31 (w.heap.size) ?e41 ?_); (case e11 => rfl); (case e21 => omega); (case e31 => unfold maxLen; omega); (case e41 => first | omega | (simp; done) | (simp; omega)); intro w1 own1 hb1 hsz1; have hI0 := hide (tinv_start own1 hb1); have hI1 := hide (hI0.out.set v0 hv0 true); have d0 := hI0.out.at v0 hv0; have q0 := hI0.out.2.2.1.free v0; obtain ⟨hc1, hf1⟩ := bcell hb1; have hz1 := hI0.out.2.2.1.at_base.2; clear hsz1; replace own1 := hide own1; replace hb1 := hide hb1)
  rw [only_set] at hI1
  clear hI0 d0 q0 hc1 hf1 own1 hb1 hz1
  go_loopw [9, 18, 23] (fun _ i _ wr => ∃ (t : Nat), t ≤ n ∧ i = .int .i64 t ∧ Hid (TInv w n a es.length cap (rreach (nes es) (fun _ => true) (only v0) t) wr)) (fun _ i _ _ => n - (intOf i).toNat)
  case atStart => exact ⟨0, Nat.zero_le _, rfl, hI1⟩
  case round =>
    obtain ⟨t, ht, rfl, hT⟩ := hrel
    clear hI1
    by_cases hlt : t < n
    · obtain ⟨wi, rfl⟩ : ∃ wi : World, wi = wr := ⟨_, rfl⟩
      have c1 := hT.out.2.1
      go_wp2
      clear c1
      go_loopw [9, 23] (fun _ i wr => ∃ (j : Nat) (f : Nat → Bool), j ≤ es.length ∧ i = .int .i64 j ∧ Hid (f = (nes (es.take j)).foldl (rstep (fun _ => true)) (rreach (nes es) (fun _ => true) (only v0) t)) ∧ Hid (TInv w n a es.length cap f wr)) (fun _ i _ => es.length - (intOf i).toNat)
      case atStart => exact ⟨0, _, Nat.zero_le _, rfl, rfl, hT⟩
      case round =>
        obtain ⟨j, f, hj, rfl, hf, hI⟩ := hrel
        have q2 := hI.out.2.2.1.free
        have q3 := hI.out.2.2.1.at_base.2
        by_cases hjl : j < es.length
        · obtain ⟨b, o, rfl, hbB, e0, e1, e2⟩ := hE.out.ed j hjl
          have hbb := hI.out.2.2.2
          rw [← hbb.cell (by simp; omega)] at e0 e1 e2
          obtain ⟨u, v, hu, hv, hun, hvn, hc1, hc2, hnt⟩ := right_edge hes.out j hjl
          rw [hu] at e0
          rw [hv] at e1
          obtain ⟨cc, hcc⟩ : ∃ x, x = es[j].c := ⟨_, rfl⟩
          rw [← hcc] at e2 hc1 hc2 hnt
          have d1 := hI.out.at u hun
          have d2 := hI.out.at v hvn
          have hstep := hide (show ∀ r', r' = rstep (fun _ => true) f ⟨u, v, cc⟩ → r' = (nes (es.take (j + 1))).foldl (rstep (fun _ => true)) (rreach (nes es) (fun _ => true) (only v0) t) by
            rintro r' rfl
            rw [hnt, List.foldl_append, ← hf.out]
            rfl)
          have i2 : (0 : Int) ≤ (u : Int) ∧ (u : Int) < (n : Int) := by omega
          have i3 : (0 : Int) ≤ (v : Int) ∧ (v : Int) < (n : Int) := by omega
          have hbs := hbb.size
          have hbl : b < wr.heap.size := by omega
          replace hcc := hide hcc
          replace hnt := hide hnt
          clear hu hv
          cases hfu : f u with
          | true =>
            have hs := hide (show rstep (fun _ => true) f ⟨u, v, cc⟩ = upz f v true by unfold rstep; rw [if_pos ⟨hfu, rfl⟩])
            rw [hfu] at d1
            clear hfu
            go_wp2_with fail
            refine (isAny_any _ _ _ _).mono ?_
            rintro e w4 ⟨rfl, hb4⟩
            have hI4 := hide ((hI.out.alloc _).later hb4)
            have d4 := hI4.out.at v hvn
            have q4 := hI4.out.2.2.1.free v
            obtain ⟨hc4, hf4⟩ := bcell hb4
            have hz4 : wr.heap.size < w4.heap.size := by have := hb4.size; simp at this; omega
            go_wp2
            go_roundw
            case rel =>
              exact ⟨j + 1, upz f v true, by omega, by go_num, hstep.out _ hs.out.symm, hide (hI4.out.set v hvn true)⟩
            case measure => simp [intOf]; omega
          | false =>
            have hs := hide (show rstep (fun _ => true) f ⟨u, v, cc⟩ = f by unfold rstep; rw [if_neg (by simp [hfu])])
            rw [hfu] at d1
            clear hfu
            go_wp2
            go_roundw
            case rel => exact ⟨j + 1, f, by omega, by go_num, hstep.out _ hs.out.symm, hide (hI.out.alloc _)⟩
            case measure => simp [intOf]; omega
        · obtain rfl : j = es.length := by omega
          have hr2 : f = rreach (nes es) (fun _ => true) (only v0) (t + 1) := by rw [hf.out, List.take_length]; rfl
          go_wp2
          go_roundw
          case rel =>
            refine ⟨t + 1, by omega, by go_num, ?_⟩
            rw [← hr2]
            exact hI
          case measure => simp [intOf]; omega
    · obtain rfl : n = t := by omega
      go_wp2
      go_ret
      exact ⟨_, rfl, hT.out.2.2.1, hT.out.2.2.2⟩
end Go.Proofs.Ytcehdpeeaogpiaa
