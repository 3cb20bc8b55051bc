/-
  The step that span.Neck hands to the tree: are two places joined by now? Conditions: a right edge, places in bounds.
-/
import Derived.Test.YtgkiipmeigfjnaaGroups
import Derived.Test.YtgkiipmeigfjnaaNeckP
import Derived.Deep.RegionHeld3
namespace Go.Proofs.Ytgkiipmeigfjnaa
open Go.RowKit
set_option linter.unusedSimpArgs false
set_option linter.unusedVariables false
/-- the groups as they were, but for shorter ways; the two places' cells -/
def FS (w : World) (ub n : Nat) (v : Value) (f : Nat → Nat) (ba bb : Nat) (a b : Nat) (w' : World) : Prop := ∃ f', Forest f' ∧ (∀ j, root f' j = root f j) ∧ Grp w' ub v n f' ∧ Keep (Blk v) w w' ∧ w'.cell? ⟨ba, 0, none⟩ = some (.int .i64 (a : Int)) ∧ w'.cell? ⟨bb, 0, none⟩ = some (.int .i64 (b : Int))
theorem FS.drew {w : World} {ub n : Nat} {v : Value} {f : Nat → Nat} {ba bb a b : Nat} {w' : World} (h : FS w ub n v f ba bb a b w') : FS w ub n v f ba bb a b w'.drew := by
  obtain ⟨f', h1, h2, h3, h4, h5, h6⟩ := h
  exact ⟨f', h1, h2, h3.drew, h4.drew, h5, h6⟩
/-- what the step leaves -/
def NStep (w : World) (ub n : Nat) (v : Value) (f : Nat → Nat) (bn be : Nat) (same : Bool) (c : Int) (w' : World) : Prop := ∃ f', Forest f' ∧ (∀ j, root f' j = root f j) ∧ Grp w' ub v n f' ∧
  (if same = true then Keep (fun k => Blk v k ∨ k = bn ∨ k = be) w w' ∧ w'.cell? ⟨bn, 0, none⟩ = some (.int .i64 c) ∧ w'.cell? ⟨be, 0, none⟩ = some (.int .i64 0) else Keep (Blk v) w w')
set_option maxHeartbeats 1000000 in
theorem neck1_any (i : Nat) (ub n : Nat) (v : Value) (f : Nat → Nat) (ba bb bg bn be : Nat) (a b : Nat) (an : Option Addr) (m cap : Nat) (c : Int) (w : World) (hf : Forest f) (hG : Grp w ub v n f) (ha : a < n) (hb : b < n) (hn : n ≤ 64)
    (ca : w.cell? ⟨ba, 0, none⟩ = some (.int .i64 (a : Int))) (cb : w.cell? ⟨bb, 0, none⟩ = some (.int .i64 (b : Int))) (cg : w.cell? ⟨bg, 1, none⟩ = some (.slice an m cap)) (cn : w.cell? ⟨bn, 0, none⟩ = some (.int .i64 0)) (ce : w.cell? ⟨be, 0, none⟩ = some (.int .i64 5)) (fn : w.frozen? ⟨bn, 0, none⟩ = false) (fe : w.frozen? ⟨be, 0, none⟩ = false)
    (hi : i < m) (eb eo : Nat) (han : an = some ⟨eb, eo, none⟩) (hc : w.cell? ⟨eb, eo + i * 3 + 2, none⟩ = some (.int .i64 c))
    (da : ¬ Blk v ba) (db : ¬ Blk v bb) (dg : ¬ Blk v bg) (dn : ¬ Blk v bn) (de : ¬ Blk v be) (dc : ¬ Blk v eb) (hne : bn ≠ be) (hun : ub ≠ bn) (hue : ub ≠ be) (same : Bool) (hs : same = decide (root f a = root f b)) :
    Calls Try.prog 63 #[.int .i64 (i : Int), .pointer (some ⟨ub, 0, none⟩), .pointer (some ⟨ba, 0, none⟩), .pointer (some ⟨bb, 0, none⟩), .pointer (some ⟨bg, 0, none⟩), .pointer (some ⟨bn, 0, none⟩), .pointer (some ⟨be, 0, none⟩)] w fun e w' => e = .returned (.bool (!same)) ∧ NStep w ub n v f bn be same c w' := by
  subst han
  have hS0 : FS w ub n v f ba bb a b w := ⟨f, hf, fun _ => rfl, hG, Keep.refl _ _, ca, cb⟩
  have hz : ∀ w', FS w ub n v f ba bb a b w' → ba < w'.heap.size ∧ bb < w'.heap.size := fun w' ⟨_, _, _, _, _, h5, h6⟩ => ⟨cell_lt h5, cell_lt h6⟩
  have hF := hide (fun w' (h : FS w ub n v f ba bb a b w') (x : Nat) (hx : x < n) => show Calls Try.prog 64 #[.pointer (some ⟨ub, 0, none⟩), .int .i64 (x : Int)] w' (fun e w2 => e = .returned (.int .i64 (root f x : Int)) ∧ FS w ub n v f ba bb a b w2) from by
    obtain ⟨f', h1, h2, h3, h4, h5, h6⟩ := h
    refine (find_any ub n v f' x w' h1 h3 hx hn).mono ?_
    rintro e w2 ⟨rfl, f2, g1, g2, g3, g4⟩
    exact ⟨by rw [h2], f2, g1, fun j => by rw [g2, h2], g3, h4.trans g4 , g4.cu h5 da, g4.cu h6 db⟩)
  have key := hide (show ∀ w', FS w ub n v f ba bb a b w' → (FS w ub n v f ba bb a b w' ∧ w'.cell? ⟨ba, 0, none⟩ = some (.int .i64 (a : Int)) ∧ w'.cell? ⟨bb, 0, none⟩ = some (.int .i64 (b : Int))) from fun w' h => ⟨h, by obtain ⟨_, _, _, _, _, h5, _⟩ := h; exact h5, by obtain ⟨_, _, _, _, _, _, h6⟩ := h; exact h6⟩)
  have hfin := hide (show ∀ w', FS w ub n v f ba bb a b w' → w'.cell? ⟨bg, 1, none⟩ = some (.slice (some ⟨eb, eo, none⟩) m cap) ∧ w'.cell? ⟨bn, 0, none⟩ = some (.int .i64 0) ∧ w'.cell? ⟨be, 0, none⟩ = some (.int .i64 5) ∧ w'.frozen? ⟨bn, 0, none⟩ = false ∧ w'.frozen? ⟨be, 0, none⟩ = false ∧ w'.cell? ⟨eb, eo + i * 3 + 2, none⟩ = some (.int .i64 c) from by
    rintro w' ⟨_, _, _, _, h4, _, _⟩
    exact ⟨h4.cu cg dg, h4.cu cn dn, h4.cu ce de, (h4.frozen (cell_lt cn) dn).trans fn, (h4.frozen (cell_lt ce) de).trans fe, h4.cu hc dc⟩)
  have hres : ((root f a : Int) == (root f b : Int)) = same := by rw [hs, Bool.eq_iff_iff]; simp only [beq_iff_eq, decide_eq_true_eq]; omega
  have ii : (0 : Int) ≤ (i : Int) ∧ (i : Int) < (m : Int) := by omega
  replace hs := hide hs
  replace hG := hide hG
  replace hf := hide hf
  replace hz := hide hz
  have dn2 := hide dn
  have de2 := hide de
  clear ca cb cg cn ce fn fe hc da db dg dn de dc hi
  cases same with
  | true =>
    go_enter Try.func63, Try.ntmps63
    go_wp2
    go_region_held3 (fun w' => FS w ub n v f ba bb a b w' ∧ w'.cell? ⟨ba, 0, none⟩ = some (.int .i64 (a : Int)) ∧ w'.cell? ⟨bb, 0, none⟩ = some (.int .i64 (b : Int)))
      (first | exact key.out _ (FS.drew (by assumption)) | exact key.out _ (by assumption))
      (first | (go_at_call 64; have hb4 := (‹FS _ _ _ _ _ _ _ _ _ _ ∧ _› : _ ∧ _).1; refine (hF.out _ hb4 _ (by assumption)).mono ?_; rintro e w4 ⟨rfl, hb5⟩))
    all_goals
      have hfs := hide (‹FS _ _ _ _ _ _ _ _ _ _ ∧ _› : _ ∧ _).1
      obtain ⟨d1, d2, d3, d4, d5, d6⟩ := hfin.out _ hfs.out
      have l1 := cell_lt d1
      have l2 := cell_lt d2
      have l3 := cell_lt d3
      have l6 := cell_lt d6
      go_wp2
      go_ret
      refine ⟨rfl, ?_⟩
      obtain ⟨f', h1, h2, h3, h4, _, _⟩ := hfs.out
      have hk1 := h4.mono (T := fun k => Blk v k ∨ k = bn ∨ k = be) (fun _ _ h => .inl h)
      refine ⟨f', h1, h2, ?_, ?_⟩
      · refine h3.keep (((Keep.refl (fun k => k = bn ∨ k = be) _).setCell (.inl (.inl rfl)) _).setCell (.inl (.inr rfl)) _) (fun h => ?_) (fun k hk h => ?_)
        · rcases h with h | h
          · exact hun h
          · exact hue h
        · rcases h with rfl | rfl
          · exact dn2.out hk
          · exact de2.out hk
      · rw [if_pos rfl]
        refine ⟨(hk1.setCell (.inl (.inr (.inl rfl))) _).setCell (.inl (.inr (.inr rfl))) _, ?_, ?_⟩
        · exact cu_set (World.cell?_setCell_same _ _ _ d2) (by simp; omega)
        · exact World.cell?_setCell_same _ _ _ (cu_set d3 (by simp; omega))
  | false =>
    go_enter Try.func63, Try.ntmps63
    go_wp2
    go_region_held3 (fun w' => FS w ub n v f ba bb a b w' ∧ w'.cell? ⟨ba, 0, none⟩ = some (.int .i64 (a : Int)) ∧ w'.cell? ⟨bb, 0, none⟩ = some (.int .i64 (b : Int)))
      (first | exact key.out _ (FS.drew (by assumption)) | exact key.out _ (by assumption))
      (first | (go_at_call 64; have hb4 := (‹FS _ _ _ _ _ _ _ _ _ _ ∧ _› : _ ∧ _).1; refine (hF.out _ hb4 _ (by assumption)).mono ?_; rintro e w4 ⟨rfl, hb5⟩))
    all_goals
      have hfs := hide (‹FS _ _ _ _ _ _ _ _ _ _ ∧ _› : _ ∧ _).1
      obtain ⟨d1, d2, d3, d4, d5, d6⟩ := hfin.out _ hfs.out
      have l3 := cell_lt d3
      go_wp2
      go_ret
      obtain ⟨f', h1, h2, h3, h4, _, _⟩ := hfs.out
      exact ⟨rfl, f', h1, h2, h3, by simpa using h4⟩
end Go.Proofs.Ytgkiipmeigfjnaa
