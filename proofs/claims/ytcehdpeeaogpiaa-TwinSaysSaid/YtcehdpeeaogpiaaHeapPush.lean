/-
  heap.Push over pairs, whatever the order. Conditions: bounds on the length.
-/
import Derived.Test.YtcehdpeeaogpiaaHeapB
import Derived.LoopTactic
import Derived.BigQuiet
import Derived.BigRegion
import Derived.StillTailTactics
import Derived.Deep.QuietTactic
import Derived.Deep.RegionLaw
import Derived.Deep.RegionHeld3
import Derived.WalkSpells
import Derived.WalkLawsBesides
namespace Go.Proofs.Ytcehdpeeaogpiaa
open Go.RowKit
set_option linter.unusedSimpArgs false
set_option linter.unusedVariables false
/-- what Push keeps -/
def Heaped (w : World) (base g : Nat) (lf v : Value) (n : Nat) (f : Nat → P2) (w' : World) : Prop :=
  ∃ gs c, HeapAt w' base g lf (.slice (some ⟨gs, 0, none⟩) n c) n f ∧ Keep (fun k => k = g ∨ v.ownBlock = some k) w w' ∧ (v.ownBlock = some gs ∨ w.heap.size ≤ gs)
theorem HeapAt.cells {w : World} {base g gs n c : Nat} {lf : Value} {f : Nat → P2} (h : HeapAt w base g lf (.slice (some ⟨gs, 0, none⟩) n c) n f) (i : Nat) (hi : i < n) :
    w.cell? ⟨gs, i * 2, none⟩ = some (.int .i64 (f i).a) ∧ w.cell? ⟨gs, i * 2 + 1, none⟩ = some (.int .i64 (f i).b) := by
  have := h.own.getP i (by rw [rw_len]; exact hi)
  rw [rw_get] at this
  exact this
theorem HeapAt.frees {w : World} {base g gs n c : Nat} {lf : Value} {f : Nat → P2} (h : HeapAt w base g lf (.slice (some ⟨gs, 0, none⟩) n c) n f) (i : Nat) : w.frozen? ⟨gs, i, none⟩ = false := h.own.free i
/-- behind the append -/
theorem HeapAt.grew {w w2 : World} {base g n : Nat} {lf v : Value} {f : Nat → P2} {p : P2} (h : HeapAt w base g lf v n f) {E X : Obj} {gs cap' : Nat}
    (own2 : w2.ownsRow base 205 2 (.slice (some ⟨gs, 0, none⟩) (n + 1) cap') (n + 1) ((RW n f).flatMap encP ++ [.int .i64 p.a, .int .i64 p.b])) (hg2 : ((w.alloc E).alloc X).drew.grownBy w2 v.ownBlock) (hat : v.ownBlock = some gs ∨ gs = w.heap.size + 1 + 1) :
    HeapAt (w2.setCell ⟨g, 1, none⟩ (.slice (some ⟨gs, 0, none⟩) (n + 1) cap')) base g lf (.slice (some ⟨gs, 0, none⟩) (n + 1) cap') (n + 1) (upz f n p) ∧ Keep (fun k => k = g ∨ v.ownBlock = some k) w (w2.setCell ⟨g, 1, none⟩ (.slice (some ⟨gs, 0, none⟩) (n + 1) cap')) := by
  have hlt := h.lt
  have hne : gs ≠ g := by
    rintro rfl
    rcases hat with e | e
    · exact h.ap e
    · omega
  have k0 := hg2.cell (a := ⟨g, 0, none⟩) (cu_drew (cu_alloc (cu_alloc h.c0))) (fun e => h.ap e.symm)
  have k1 := hg2.cell (a := ⟨g, 1, none⟩) (cu_drew (cu_alloc (cu_alloc h.c1))) (fun e => h.ap e.symm)
  have k2 := hg2.frozen_far ⟨g, 1, none⟩ (by simp; omega) (fun e => h.ap e.symm)
  have hf : ((w.alloc E).alloc X).drew.frozen? ⟨g, 1, none⟩ = false := by
    have hb : Below w.heap.size w ((w.alloc E).alloc X).drew := up_drew (up_alloc (up_alloc (Below.refl _ _) (Nat.le_refl _)) (by simp))
    exact (hb.frozen (p := ⟨g, 1, none⟩) hlt).trans h.f1
  rw [hf] at k2
  have hsz : w.heap.size ≤ w2.heap.size := by have := hg2.size; simp at this; omega
  have own' : Own encP 2 205 w2 base (.slice (some ⟨gs, 0, none⟩) (n + 1) cap') (RW (n + 1) (upz f n p)) := by
    rw [rw_push]
    unfold Own
    rw [List.length_append, rw_len, List.flatMap_append]
    exact own2
  refine ⟨⟨h.bg, by simp; omega, ?_, ?_, fu_set k2, own'.elsewhere (by simp [Value.ownBlock]; exact hne) _, by simp [Value.ownBlock]; exact hne⟩, ?_⟩
  · exact cu_set_off k0 (by omega)
  · exact World.cell?_setCell_same _ _ _ k1
  · have hkp : Keep (fun k => k = g ∨ v.ownBlock = some k) w ((w.alloc E).alloc X).drew := (((Keep.refl _ w).alloc E).alloc X).drew
    exact (hkp.grown hg2 (fun k hk => .inl (.inr hk))).setCell (.inl (.inl rfl)) _
set_option maxRecDepth 100000 in
set_option maxHeartbeats 4000000 in
theorem push_any (base g n : Nat) (a0 : Option Addr) (c0 : Nat) (f : Nat → P2) (p : P2) (w : World) (hH : HeapAt w base g (.func (.func 168) #[] #[]) (.slice a0 n c0) n f) (hn : n ≤ 1000000) :
    Calls Try.prog 169 #[.pointer (some ⟨g, 0, none⟩), .agg #[.int .i64 p.a, .int .i64 p.b]] w fun e w' => e = .returned (.tuple #[]) ∧ Heaped w base g (.func (.func 168) #[] #[]) (.slice a0 n c0) (n + 1) (siftUp popLt (upz f n p) n) w' := by
  obtain ⟨i0, hi, hz0, hz1, hz2⟩ := info_parts info_pop
  have hg := hH.lt
  have hbg := hH.bg
  have hc0 := hH.c0
  have hc1 := hH.c1
  have hf1 := hH.f1
  have hown := hH.own
  have hap := hH.ap
  go_enter Try.func169, Try.ntmps169
  have hH' := hide hH
  have hblk := hide hown.block_lt
  unfold Own at hown
  rw [rw_len] at hown
  replace hown := hide hown
  have ha : (Value.slice a0 n c0).ownBlock ≠ some g := hap
  have hsz : base ≤ w.heap.size := by omega
  clear hap hH
  go_wp2
  go_region_law (first | (refine step_append_lies _ rfl (.tmp 10) (.tmp 12) 242 rfl base 205 i0 (.agg #[.int .i64 0, .int .i64 0]) 2 16 Try.underlying242 hi hz0 hz1 hz2 rfl (by decide) (.slice a0 n c0) n _ rfl (World.ownsRow.drew (World.ownsRow.alloc (World.ownsRow.alloc hown.out _) _)) ⟨w.heap.size + 1, 0, none⟩ 1 1 [.int .i64 p.a, .int .i64 p.b] rfl rfl (newP _ _ _ _ (by simp)) (oneP _) (by omega) (by unfold maxLen; omega) (by omega) (by simp; omega) (w.heap.size + 1 + 1) (by simp) ?_; intro gs cap' w2 own2 hg2 hat hlt2; have k0 := hg2.cell (a := ⟨g, 0, none⟩) (cu_drew (cu_alloc (cu_alloc hc0))) (fun e => ha e.symm); have k1 := hg2.cell (a := ⟨g, 1, none⟩) (cu_drew (cu_alloc (cu_alloc hc1))) (fun e => ha e.symm); have k2 := hg2.frozen_far ⟨g, 1, none⟩ (by simp; omega) (fun e => ha e.symm); rw [fu_drew (fu_alloc (fu_alloc hf1))] at k2))
  all_goals
    obtain ⟨hA, hK⟩ := hH'.out.grew own2 hg2 hat
    have hgb : (Value.slice a0 n c0).ownBlock = some gs ∨ w.heap.size ≤ gs := by rcases hat with e | e; exact .inl e; right; omega
    go_wp2_with fail
    generalize (w2.setCell ⟨g, 1, none⟩ (.slice (some ⟨gs, 0, none⟩) (n + 1) cap')) = W at hA hK ⊢
    replace hA := hide hA
    replace hK := hide hK
    have hgs := hA.out.own.at_base
    clear own2 hg2 hat hlt2 k0 k1 k2 hown hblk hH' hi hz0 hz1 hz2 ha
    go_loopw [4] (fun i wr => ∃ (k : Nat) (f' : Nat → P2), k < n + 1 ∧ i = .int .i64 k ∧ Hid (HeapAt wr base g (.func (.func 168) #[] #[]) (.slice (some ⟨gs, 0, none⟩) (n + 1) cap') (n + 1) f') ∧ Hid (siftUp popLt f' k = siftUp popLt (upz f n p) n) ∧ Hid (Keep (fun k => k = g ∨ (Value.slice a0 n c0).ownBlock = some k) w wr)) (fun i _ => (intOf i).toNat)
    case atStart => exact ⟨n, upz f n p, by omega, by go_num, hA, rfl, hK⟩
    case round =>
      obtain ⟨k, f', hk, rfl, hA, hS, hK⟩ := hrel
      by_cases h0 : k = 0
      · subst h0
        go_wp2
        go_end0
        refine ⟨rfl, gs, cap', ?_, hK.out, hgb⟩
        rw [← hS.out, siftUp_top]
        exact hA.out
      · obtain ⟨j, hj⟩ : ∃ j, j = (k - 1) / 2 := ⟨_, rfl⟩
        have hjk : j < k := by omega
        have hq : ((k : Int) - 1) / 2 = (j : Int) := by omega
        have hk0 : (0 : Int) < (k : Int) := by omega
        obtain ⟨ca, cb⟩ := hA.out.cells k hk
        obtain ⟨da, db⟩ := hA.out.cells j (by omega)
        have c0 := hA.out.c0
        have c1 := hA.out.c1
        have hglt := hA.out.lt
        have hgs' := hA.out.own.at_base
        have ff := hA.out.frees
        replace hj := hide hj
        have key := hide (show ∀ w', Below wr.heap.size wr w' → (Below wr.heap.size wr w' ∧ w'.cell? ⟨g, 0, none⟩ = some (.func (.func 168) #[] #[]) ∧ w'.cell? ⟨g, 1, none⟩ = some (.slice (some ⟨gs, 0, none⟩) (n + 1) cap') ∧ w'.cell? ⟨gs, k * 2, none⟩ = some (.int .i64 (f' k).a) ∧ w'.cell? ⟨gs, k * 2 + 1, none⟩ = some (.int .i64 (f' k).b) ∧ w'.cell? ⟨gs, j * 2, none⟩ = some (.int .i64 (f' j).a) ∧ w'.cell? ⟨gs, j * 2 + 1, none⟩ = some (.int .i64 (f' j).b)) from
          fun w' hb => ⟨hb, cu_below hb c0 hglt, cu_below hb c1 hglt, cu_below hb ca hgs'.2, cu_below hb cb hgs'.2, cu_below hb da hgs'.2, cu_below hb db hgs'.2⟩)
        go_wp2
        simp only [hq]
        clear hq
        have ik : (0 : Int) ≤ (k : Int) ∧ (k : Int) < (n : Int) + 1 := by omega
        have ij : (0 : Int) ≤ (j : Int) ∧ (j : Int) < (n : Int) + 1 := by omega
        have ik2 : (k : Int) < ((n + 1 : Nat) : Int) := by omega
        have ij2 : (j : Int) < ((n + 1 : Nat) : Int) := by omega
        have hsv := (‹_ ∧ _› : base ≤ gs ∧ gs < W.heap.size)
        clear hgs
        have hC0 := hide (less_any (f' k) (f' j))
        obtain ⟨b, hb⟩ : ∃ b, b = popLt (f' k) (f' j) := ⟨_, rfl⟩
        rw [← hb] at hC0
        replace hb := hide hb
        cases b
        all_goals
          have hC := hide hC0.out
          clear hC0
          go_region_held3 (fun w' => Below wr.heap.size wr w' ∧ w'.cell? ⟨g, 0, none⟩ = some (.func (.func 168) #[] #[]) ∧ w'.cell? ⟨g, 1, none⟩ = some (.slice (some ⟨gs, 0, none⟩) (n + 1) cap') ∧ w'.cell? ⟨gs, k * 2, none⟩ = some (.int .i64 (f' k).a) ∧ w'.cell? ⟨gs, k * 2 + 1, none⟩ = some (.int .i64 (f' k).b) ∧ w'.cell? ⟨gs, j * 2, none⟩ = some (.int .i64 (f' j).a) ∧ w'.cell? ⟨gs, j * 2 + 1, none⟩ = some (.int .i64 (f' j).b))
            (first | exact key.out _ (below_drew _) | exact key.out _ (by assumption))
            (first | (go_at_call 168; refine (hC.out _).mono ?_; rintro e w4 ⟨rfl, hb5⟩; have hb6 := below_step (‹Below wr.heap.size wr _ ∧ _› : _ ∧ _).1 hb5))
          all_goals
            have hb7 := (‹Below wr.heap.size wr w4 ∧ _› : _ ∧ _).1
            have hA4 := hide (hA.out.stays hb7)
            have hK4 := hide (hK.out.trans (Keep.new hb7))
            have hz4 := hb7.size
            obtain ⟨ca4, cb4⟩ := hA4.out.cells k hk
            obtain ⟨da4, db4⟩ := hA4.out.cells j (by omega)
            have c04 := hA4.out.c0
            have c14 := hA4.out.c1
            have ff4 := hA4.out.frees
            clear ca cb da db c0 c1 ff key hC hA hK hb5 hb6
            first
              | (go_wp2
                 go_end0
                 refine ⟨rfl, gs, cap', ?_, hK4.out, hgb⟩
                 rw [← hS.out, siftUp_stop (by omega) (by rw [← hj.out]; exact hb.out.symm)]
                 exact hA4.out)
              | (go_wp2
                 have ffk := ff4 (k * 2)
                 have ffk1 := ff4 (k * 2 + 1)
                 have ffj := ff4 (j * 2)
                 have ffj1 := ff4 (j * 2 + 1)
                 clear ff4
                 go_region
                 go_wp2
                 have hsw := hide (hA4.out.swap hk (show j < n + 1 by omega))
                 have hgo := siftUp_go (lt := popLt) (f := f') (i := k) (by omega) (by rw [← hj.out]; exact hb.out.symm)
                 rw [← hj.out] at hgo
                 replace hgo := hide hgo
                 have hsp : (fun k => k = g ∨ (Value.slice a0 n c0).ownBlock = some k) gs ∨ w.heap.size ≤ gs := hgb.imp .inr id
                 go_roundw
                 case rel =>
                   refine ⟨j, swf f' k j, by omega, by go_num, hide ?_, hide ?_, hide ?_⟩
                   · first | exact hsw.out.drew | exact hsw.out.drewN _
                   · rw [← hS.out]; exact hgo.out.symm
                   · first | exact ((((hK4.out.setCell hsp _).setCell hsp _).setCell hsp _).setCell hsp _).drew | exact ((((hK4.out.setCell hsp _).setCell hsp _).setCell hsp _).setCell hsp _).drewN _
                 case measure => simp [intOf]; omega)
end Go.Proofs.Ytcehdpeeaogpiaa
