/-
  What star's reach does to a place that it comes to for less (key: star.Run$1). Conditions: the object reads as SX says.
-/
import Derived.Test.YtcehdpeeaogpiaaStarR
namespace Go.Proofs.Ytcehdpeeaogpiaa
open Go.RowKit
set_option linter.unusedSimpArgs false
set_option linter.unusedVariables false
/-- a key's function: what it answers -/
def KeyFnS (key : Int → Int → Int) (w : World) : Prop := ∀ (c g : Int), 0 ≤ c → c ≤ 10000000 → 0 ≤ g → g ≤ 1099511627776 → Calls Try.prog 93 #[.int .i64 c, .int .i64 g] w fun e w' => e = .returned (.int .i64 (key c g)) ∧ w' = w
set_option maxRecDepth 100000 in
set_option maxHeartbeats 1000000 in
theorem reach_goS (base n sb gc gp gd gh u hc q qc : Nat) (a0 ha : Option Addr) (ov : Value) (f : Nat → Ed) (s : SR) (h : Nat → Int) (c fr : Int) (wS w : World) (B : Nat) (hB : B ≤ wS.heap.size) (hS : SX base n sb gc gp gd gh ov (.slice ha n hc) (.func (.func 93) #[] #[]) (.slice a0 q qc) q f s wS w) (hH : Row encI 1 wS B ha (LI n h)) (hHB : ∀ b o, ha = some ⟨b, o, none⟩ → ¬ SXb gc gp gd gh b) (hu : u < n) (hn : n ≤ 64) (hq : q ≤ 100000)
    (key : Int → Int → Int) (hF : ∀ w', Keep (SXb gc gp gd gh) wS w' → KeyFnS key w') (hc0 : 0 ≤ c) (hc1 : c ≤ 10000000) (hg : 0 ≤ h u ∧ h u < 1099511627776) (h0 : u ∉ s.ord) (h1 : c < s.cost u) :
    Calls Try.prog 173 #[.pointer (some ⟨sb, 0, none⟩), .int .i64 (u : Int), .int .i64 c, .int .i64 fr] w fun e w' => e = .returned (.tuple #[]) ∧ ∃ gs cs, SX base n sb gc gp gd gh ov (.slice ha n hc) (.func (.func 93) #[] #[]) (.slice (some ⟨gs, 0, none⟩) (q + 1) cs) (q + 1) (siftUp plLt (upz f q ⟨key c (h u), h u, (u : Int)⟩) q) { s with cost := upz s.cost u c, pred := upz s.pred u fr } wS w' ∧ Keep (fun j => SXb gc gp gd gh j ∨ (Value.slice a0 q qc).ownBlock = some j) w w' ∧ ((Value.slice a0 q qc).ownBlock = some gs ∨ w.heap.size ≤ gs) := by
  have c3 := hS.c3
  have c4 := hS.c4
  have c5 := hS.c5
  have c6 := hS.c6
  have d0 := hS.atD u hu
  have d1 := hS.cost.atI u hu
  have d3 := hS.pred.atI u hu
  have fc := hS.cost.free u
  have fp := hS.pred.free u
  obtain ⟨b, o, rfl, hb, d2⟩ := hH.atI u hu
  have hbx := hHB b o rfl
  have d2 := hS.keep.cu d2 (by simpa using hbx)
  have iu : (0 : Int) ≤ (u : Int) ∧ (u : Int) < (n : Int) := by omega
  have q0 : decide (u ∈ s.ord) = false := by simpa using h0
  rw [q0] at d0
  have hS2 := hide ((hS.setC u hu c).setP u hu fr)
  have hKp := hide (((Keep.refl (SXb gc gp gd gh) w).setCell (p := ⟨gc, u, none⟩) (.inl (.inl rfl)) (.int .i64 c)).setCell (p := ⟨gp, u, none⟩) (.inl (.inr (.inl rfl))) (.int .i64 fr))
  obtain ⟨x, hx⟩ : ∃ x, x = s.cost u := ⟨_, rfl⟩
  obtain ⟨y, hy⟩ : ∃ y, y = h u := ⟨_, rfl⟩
  rw [← hx] at d1 h1
  rw [← hy] at d2 hg
  rw [← hy]
  have hbc : b ≠ gc := fun e => hbx (.inl e)
  have hbp : b ≠ gp := fun e => hbx (.inr (.inl e))
  have hsc := hS.ne.1
  have hsp := hS.ne.2.1
  have hcp := hS.ne.2.2.2.2.1
  replace hS := hide hS
  replace hx := hide hx
  replace hy := hide hy
  clear q0 hbx hHB hH h0
  go_enter Try.func173, Try.ntmps173
  have q1 : (y == 1099511627776) = false := by simp; omega
  have q2 : ¬ x ≤ c := by omega
  go_wp2
  go_region
  go_wp2_with fail
  have e2 : ((w.setCell ⟨gc, u, none⟩ (.int .i64 c)).setCell ⟨gp, u, none⟩ (.int .i64 fr)).cell? ⟨b, o + u, none⟩ = some (.int .i64 y) := cu_set (cu_set d2 (by simp; omega)) (by simp; omega)
  generalize ((w.setCell ⟨gc, u, none⟩ (.int .i64 c)).setCell ⟨gp, u, none⟩ (.int .i64 fr)) = w2 at hS2 hKp e2 ⊢
  have hK := hide (show ∀ w', Below w2.heap.size w2 w' → (w'.cell? ⟨sb, 7, none⟩ = some (.pointer (some ⟨gh, 0, none⟩)) ∧ w'.cell? ⟨sb, 8, none⟩ = some (.func (.func 93) #[] #[]) ∧ w'.cell? ⟨sb, 3, none⟩ = some (.slice (some ⟨b, o, none⟩) n hc) ∧ w'.cell? ⟨b, o + u, none⟩ = some (.int .i64 y) ∧ Hid (SX base n sb gc gp gd gh ov (.slice (some ⟨b, o, none⟩) n hc) (.func (.func 93) #[] #[]) (.slice a0 q qc) q f { s with cost := upz s.cost u c, pred := upz s.pred u fr } wS w') ∧ Hid (Keep (SXb gc gp gd gh) w w')) from fun w' hb =>
    ⟨(hS2.out.stays hb).c7, (hS2.out.stays hb).c8, (hS2.out.stays hb).c3, cu_below hb e2 (cell_lt e2), hide (hS2.out.stays hb), hide (hKp.out.trans (Keep.new hb))⟩)
  clear c3 c4 c5 c6 d0 d1 d2 d3 fc fp hS hS2 e2 hKp
  refine wp_region_end (S := (fun w' => w'.cell? ⟨sb, 7, none⟩ = some (.pointer (some ⟨gh, 0, none⟩)) ∧ w'.cell? ⟨sb, 8, none⟩ = some (.func (.func 93) #[] #[]) ∧ w'.cell? ⟨sb, 3, none⟩ = some (.slice (some ⟨b, o, none⟩) n hc) ∧ w'.cell? ⟨b, o + u, none⟩ = some (.int .i64 y) ∧ Hid (SX base n sb gc gp gd gh ov (.slice (some ⟨b, o, none⟩) n hc) (.func (.func 93) #[] #[]) (.slice a0 q qc) q f { s with cost := upz s.cost u c, pred := upz s.pred u fr } wS w') ∧ Hid (Keep (SXb gc gp gd gh) w w'))) (t := 26) (by kernel_rfl) ?_ (fun hHeld hInv => ?_)
  · exact hK.out _ (up_drew (up_drew (Below.refl _ _)))
  replace hInv := hide hInv
  refine wpAnyE_take (i := 0) (v := ?_) (List.getElem?_toArray.trans rfl) (by kernel_rfl) (by kernel_rfl) (by kernel_rfl) (by kernel_rfl) (fun _ _ _ h => h) (Or.inl ⟨by rfl, ?_⟩) hInv.out (by assumption) (fun hInv' => ?_)
  rotate_left
  · intro w hSw; (try dsimp only at hSw); go_simp; (try with_reducible rfl)
  replace hInv := hide hInv'; clear hInv'; try simp only [Act.put, List.setIfInBounds_toArray, List.set_cons_zero, List.set_cons_succ]
  refine wpAnyE_take (i := 1) (v := ?_) (List.getElem?_toArray.trans rfl) (by kernel_rfl) (by kernel_rfl) (by kernel_rfl) (by kernel_rfl) (fun _ _ _ h => h) (Or.inl ⟨by rfl, ?_⟩) hInv.out (by assumption) (fun hInv' => ?_)
  rotate_left
  · intro w hSw; (try dsimp only at hSw); go_simp; (try with_reducible rfl)
  replace hInv := hide hInv'; clear hInv'; try simp only [Act.put, List.setIfInBounds_toArray, List.set_cons_zero, List.set_cons_succ]
  refine wpAnyE_take (i := 2) (v := ?_) (List.getElem?_toArray.trans rfl) (by kernel_rfl) (by kernel_rfl) (by kernel_rfl) (by kernel_rfl) (fun _ _ _ h => h) (Or.inl ⟨by rfl, ?_⟩) hInv.out (by assumption) (fun hInv' => ?_)
  rotate_left
  · intro w hSw; (try dsimp only at hSw); go_simp; (try with_reducible rfl)
  replace hInv := hide hInv'; clear hInv'; try simp only [Act.put, List.setIfInBounds_toArray, List.set_cons_zero, List.set_cons_succ]
  refine wpAnyE_take (i := 3) (v := ?_) (List.getElem?_toArray.trans rfl) (by kernel_rfl) (by kernel_rfl) (by kernel_rfl) (by kernel_rfl) (fun _ _ _ h => h) (Or.inl ⟨by rfl, ?_⟩) hInv.out (by assumption) (fun hInv' => ?_)
  rotate_left
  · intro w hSw; (try dsimp only at hSw); go_simp; (try with_reducible rfl)
  replace hInv := hide hInv'; clear hInv'; try simp only [Act.put, List.setIfInBounds_toArray, List.set_cons_zero, List.set_cons_succ]
  refine wpAnyE_take (i := 4) (v := ?_) (List.getElem?_toArray.trans rfl) (by kernel_rfl) (by kernel_rfl) (by kernel_rfl) (by kernel_rfl) (fun _ _ _ h => h) (Or.inl ⟨by rfl, ?_⟩) hInv.out (by assumption) (fun hInv' => ?_)
  rotate_left
  · intro w hSw; (try dsimp only at hSw); go_simp; (try with_reducible rfl)
  replace hInv := hide hInv'; clear hInv'; try simp only [Act.put, List.setIfInBounds_toArray, List.set_cons_zero, List.set_cons_succ]
  refine wpAnyE_take (i := 5) (v := ?_) (List.getElem?_toArray.trans rfl) (by kernel_rfl) (by kernel_rfl) (by kernel_rfl) (by kernel_rfl) (fun _ _ _ h => h) (Or.inl ⟨by rfl, ?_⟩) hInv.out (by assumption) (fun hInv' => ?_)
  rotate_left
  · intro w hSw; (try dsimp only at hSw); go_simp; (try with_reducible rfl)
  replace hInv := hide hInv'; clear hInv'; try simp only [Act.put, List.setIfInBounds_toArray, List.set_cons_zero, List.set_cons_succ]
  refine wpAnyE_take (i := 6) (v := ?_) (List.getElem?_toArray.trans rfl) (by kernel_rfl) (by kernel_rfl) (by kernel_rfl) (by kernel_rfl) (fun _ _ _ h => h) (Or.inl ⟨by rfl, ?_⟩) hInv.out (by assumption) (fun hInv' => ?_)
  rotate_left
  · intro w hSw; (try dsimp only at hSw); go_simp; (try with_reducible rfl)
  replace hInv := hide hInv'; clear hInv'; try simp only [Act.put, List.setIfInBounds_toArray, List.set_cons_zero, List.set_cons_succ]
  refine wpAnyE_take (i := 7) (v := ?_) (List.getElem?_toArray.trans rfl) (by kernel_rfl) (by kernel_rfl) (by kernel_rfl) (by kernel_rfl) (fun _ _ _ h => h) (Or.inl ⟨by rfl, ?_⟩) hInv.out (by assumption) (fun hInv' => ?_)
  rotate_left
  · intro w hSw; (try dsimp only at hSw); go_simp; (try with_reducible rfl)
  replace hInv := hide hInv'; clear hInv'; try simp only [Act.put, List.setIfInBounds_toArray, List.set_cons_zero, List.set_cons_succ]
  refine wpAnyE_take (i := 8) (v := ?_) (List.getElem?_toArray.trans rfl) (by kernel_rfl) (by kernel_rfl) (by kernel_rfl) (by kernel_rfl) (fun _ _ _ h => h) (Or.inl ⟨by rfl, ?_⟩) hInv.out (by assumption) (fun hInv' => ?_)
  rotate_left
  · intro w hSw; (try dsimp only at hSw); go_simp; (try with_reducible rfl)
  replace hInv := hide hInv'; clear hInv'; try simp only [Act.put, List.setIfInBounds_toArray, List.set_cons_zero, List.set_cons_succ]
  refine wpAnyE_take (i := 9) (v := ?_) (List.getElem?_toArray.trans rfl) (by kernel_rfl) (by kernel_rfl) (by kernel_rfl) (by kernel_rfl) (fun _ _ _ h => h) (Or.inl ⟨by rfl, ?_⟩) hInv.out (by assumption) (fun hInv' => ?_)
  rotate_left
  · intro w hSw; (try dsimp only at hSw); go_simp; (try with_reducible rfl)
  replace hInv := hide hInv'; clear hInv'; try simp only [Act.put, List.setIfInBounds_toArray, List.set_cons_zero, List.set_cons_succ]
  refine wpAnyE_take (i := 10) (v := ?_) (List.getElem?_toArray.trans rfl) (by kernel_rfl) (by kernel_rfl) (by kernel_rfl) (by kernel_rfl) (fun _ _ _ h => h) (Or.inl ⟨by rfl, ?_⟩) hInv.out (by assumption) (fun hInv' => ?_)
  rotate_left
  · intro w hSw; (try dsimp only at hSw); go_simp; (try with_reducible rfl)
  replace hInv := hide hInv'; clear hInv'; try simp only [Act.put, List.setIfInBounds_toArray, List.set_cons_zero, List.set_cons_succ]
  refine wpAnyE_take (i := 11) (v := ?_) (List.getElem?_toArray.trans rfl) (by kernel_rfl) (by kernel_rfl) (by kernel_rfl) (by kernel_rfl) (fun _ _ _ h => h) (Or.inl ⟨by rfl, ?_⟩) hInv.out (by assumption) (fun hInv' => ?_)
  rotate_left
  · intro w hSw; (try dsimp only at hSw); go_simp; (try with_reducible rfl)
  replace hInv := hide hInv'; clear hInv'; try simp only [Act.put, List.setIfInBounds_toArray, List.set_cons_zero, List.set_cons_succ]
  refine wpAnyE_take (i := 12) (v := ?_) (List.getElem?_toArray.trans rfl) (by kernel_rfl) (by kernel_rfl) (by kernel_rfl) (by kernel_rfl) (fun _ _ _ h => h) (Or.inl ⟨by rfl, ?_⟩) hInv.out (by assumption) (fun hInv' => ?_)
  rotate_left
  · intro w hSw; (try dsimp only at hSw); go_simp; (try with_reducible rfl)
  replace hInv := hide hInv'; clear hInv'; try simp only [Act.put, List.setIfInBounds_toArray, List.set_cons_zero, List.set_cons_succ]
  refine wpAnyE_take (i := 13) (v := ?_) (List.getElem?_toArray.trans rfl) (by kernel_rfl) (by kernel_rfl) (by kernel_rfl) (by kernel_rfl) (fun _ _ _ h => h) (Or.inl ⟨by rfl, ?_⟩) hInv.out (by assumption) (fun hInv' => ?_)
  rotate_left
  · intro w hSw; (try dsimp only at hSw); go_simp; (try with_reducible rfl)
  replace hInv := hide hInv'; clear hInv'; try simp only [Act.put, List.setIfInBounds_toArray, List.set_cons_zero, List.set_cons_succ]
  refine wpAnyE_take (i := 14) (v := ?_) (List.getElem?_toArray.trans rfl) (by kernel_rfl) (by kernel_rfl) (by kernel_rfl) (by kernel_rfl) (fun _ _ _ h => h) (Or.inl ⟨by rfl, ?_⟩) hInv.out (by assumption) (fun hInv' => ?_)
  rotate_left
  · intro w hSw; (try dsimp only at hSw); go_simp; (try with_reducible rfl)
  replace hInv := hide hInv'; clear hInv'; try simp only [Act.put, List.setIfInBounds_toArray, List.set_cons_zero, List.set_cons_succ]
  refine wpAnyE_take (i := 15) (v := ?_) (List.getElem?_toArray.trans rfl) (by kernel_rfl) (by kernel_rfl) (by kernel_rfl) (by kernel_rfl) (fun _ _ _ h => h) (Or.inl ⟨by rfl, ?_⟩) hInv.out (by assumption) (fun hInv' => ?_)
  rotate_left
  · intro w hSw; (try dsimp only at hSw); go_simp; (try with_reducible rfl)
  replace hInv := hide hInv'; clear hInv'; try simp only [Act.put, List.setIfInBounds_toArray, List.set_cons_zero, List.set_cons_succ]
  refine wpAnyE_take (i := 17) (v := ?_) (List.getElem?_toArray.trans rfl) (by kernel_rfl) (by kernel_rfl) (by kernel_rfl) (by kernel_rfl) (fun _ _ _ h => h) (Or.inl ⟨by rfl, ?_⟩) hInv.out (by assumption) (fun hInv' => ?_)
  rotate_left
  · intro w hSw; (try dsimp only at hSw); go_simp; (try with_reducible rfl)
  replace hInv := hide hInv'; clear hInv'; try simp only [Act.put, List.setIfInBounds_toArray, List.set_cons_zero, List.set_cons_succ]
  refine wpAnyE_take (i := 18) (v := ?_) (List.getElem?_toArray.trans rfl) (by kernel_rfl) (by kernel_rfl) (by kernel_rfl) (by kernel_rfl) (fun _ _ _ h => h) (Or.inl ⟨by rfl, ?_⟩) hInv.out (by assumption) (fun hInv' => ?_)
  rotate_left
  · intro w hSw; (try dsimp only at hSw); go_simp; (try with_reducible rfl)
  replace hInv := hide hInv'; clear hInv'; try simp only [Act.put, List.setIfInBounds_toArray, List.set_cons_zero, List.set_cons_succ]
  refine wpAnyE_take (i := 19) (v := ?_) (List.getElem?_toArray.trans rfl) (by kernel_rfl) (by kernel_rfl) (by kernel_rfl) (by kernel_rfl) (fun _ _ _ h => h) (Or.inl ⟨by rfl, ?_⟩) hInv.out (by assumption) (fun hInv' => ?_)
  rotate_left
  · intro w hSw; (try dsimp only at hSw); go_simp; (try with_reducible rfl)
  replace hInv := hide hInv'; clear hInv'; try simp only [Act.put, List.setIfInBounds_toArray, List.set_cons_zero, List.set_cons_succ]
  refine wpAnyE_take (i := 20) (v := ?_) (List.getElem?_toArray.trans rfl) (by kernel_rfl) (by kernel_rfl) (by kernel_rfl) (by kernel_rfl) (fun _ _ _ h => h) (Or.inl ⟨by rfl, ?_⟩) hInv.out (by assumption) (fun hInv' => ?_)
  rotate_left
  · intro w hSw; (try dsimp only at hSw); go_simp; (try with_reducible rfl)
  replace hInv := hide hInv'; clear hInv'; try simp only [Act.put, List.setIfInBounds_toArray, List.set_cons_zero, List.set_cons_succ]
  refine wpAnyE_take (i := 21) (v := ?_) (List.getElem?_toArray.trans rfl) (by kernel_rfl) (by kernel_rfl) (by kernel_rfl) (by kernel_rfl) (fun _ _ _ h => h) (Or.inl ⟨by rfl, ?_⟩) hInv.out (by assumption) (fun hInv' => ?_)
  rotate_left
  · intro w hSw; (try dsimp only at hSw); go_simp; (try with_reducible rfl)
  replace hInv := hide hInv'; clear hInv'; try simp only [Act.put, List.setIfInBounds_toArray, List.set_cons_zero, List.set_cons_succ]
  refine wpAnyE_take (i := 22) (v := ?_) (List.getElem?_toArray.trans rfl) (by kernel_rfl) (by kernel_rfl) (by kernel_rfl) (by kernel_rfl) (fun _ _ _ h => h) (Or.inl ⟨by rfl, ?_⟩) hInv.out (by assumption) (fun hInv' => ?_)
  rotate_left
  · intro w hSw; (try dsimp only at hSw); go_simp; (try with_reducible rfl)
  replace hInv := hide hInv'; clear hInv'; try simp only [Act.put, List.setIfInBounds_toArray, List.set_cons_zero, List.set_cons_succ]
  refine wpAnyE_take (i := 23) (v := ?_) (List.getElem?_toArray.trans rfl) (by kernel_rfl) (by kernel_rfl) (by kernel_rfl) (by kernel_rfl) (fun _ _ _ h => h) (Or.inl ⟨by rfl, ?_⟩) hInv.out (by assumption) (fun hInv' => ?_)
  rotate_left
  · intro w hSw; (try dsimp only at hSw); go_simp; (try with_reducible rfl)
  replace hInv := hide hInv'; clear hInv'; try simp only [Act.put, List.setIfInBounds_toArray, List.set_cons_zero, List.set_cons_succ]
  refine wpAnyE_take (i := 24) (v := ?_) (List.getElem?_toArray.trans rfl) (by kernel_rfl) (by kernel_rfl) (by kernel_rfl) (by kernel_rfl) (fun _ _ _ h => h) (Or.inl ⟨by rfl, ?_⟩) hInv.out (by assumption) (fun hInv' => ?_)
  rotate_left
  · intro w hSw; (try dsimp only at hSw); go_simp; (try with_reducible rfl)
  replace hInv := hide hInv'; clear hInv'; try simp only [Act.put, List.setIfInBounds_toArray, List.set_cons_zero, List.set_cons_succ]
  refine wpAnyE_one (i := 16) (List.getElem?_toArray.trans rfl) (by kernel_rfl) (fun K hK => ?_) hInv.out
  (go_simp; refine (hF _ hHeld.2.2.2.2.1.out.keep c y hc0 hc1 (by omega) (by omega)).mono ?_; rintro e w4 ⟨rfl, rfl⟩)
  have hHeld := hHeld
  refine hK.out _ _ (fun _ => hHeld) (fun hInv' => ?_)
  clear hK K; replace hInv := hide (hInv' (by decide)); clear hInv'; try simp only [Act.put, List.setIfInBounds_toArray, List.set_cons_zero, List.set_cons_succ]
  refine wpAnyE_take (i := 25) (v := ?_) (List.getElem?_toArray.trans rfl) (by kernel_rfl) (by kernel_rfl) (by kernel_rfl) (by kernel_rfl) (fun _ _ _ h => h) (Or.inl ⟨by rfl, ?_⟩) hInv.out (by assumption) (fun hInv' => ?_)
  rotate_left
  · intro w hSw; (try dsimp only at hSw); go_simp; (try with_reducible rfl)
  replace hInv := hide hInv'; clear hInv'; try simp only [Act.put, List.setIfInBounds_toArray, List.set_cons_zero, List.set_cons_succ]
  refine wpAnyE_one (i := 26) (List.getElem?_toArray.trans rfl) (by kernel_rfl) (fun K hK => ?_) hInv.out
  (go_simp; refine (pushT_any gh gh q a0 qc f ⟨key c y, y, (u : Int)⟩ _ hHeld.2.2.2.2.1.out.heap (by omega)).mono ?_; rintro e w5 ⟨rfl, hP⟩)
  refine hK.out _ _ (fun h => absurd rfl h) (fun _ => ?_)
  clear hK K hInv; try simp only [Act.put, List.setIfInBounds_toArray, List.set_cons_zero, List.set_cons_succ]
  refine wpAnyE_done (by kernel_rfl) ?_ _
  obtain ⟨gs, cs, hX, hKq, hgq⟩ := hHeld.2.2.2.2.1.out.push hP
  have hKr := hide (hHeld.2.2.2.2.2.out)
  replace hX := hide hX
  replace hKq := hide hKq
  replace hgq := hide hgq
  clear hP hHeld
  go_wp2
  go_end0
  refine ⟨rfl, gs, cs, hX.out, ?_, ?_⟩
  · refine (hKr.out.mono (fun j _ hj => .inl hj)).trans (hKq.out.mono fun j _ hj => ?_)
    rcases hj with hj | hj
    · exact .inl (.inr (.inr (.inr hj)))
    · exact .inr hj
  · rcases hgq.out with h | h
    · exact .inl h
    · exact .inr (Nat.le_trans hKr.out.size h)
/-- whatever comes of it -/
theorem reach_anyS (base n sb gc gp gd gh u hc q qc : Nat) (a0 ha : Option Addr) (ov : Value) (f : Nat → Ed) (s : SR) (h : Nat → Int) (c fr : Int) (wS w : World) (B : Nat) (hB : B ≤ wS.heap.size) (hS : SX base n sb gc gp gd gh ov (.slice ha n hc) (.func (.func 93) #[] #[]) (.slice a0 q qc) q f s wS w) (hH : Row encI 1 wS B ha (LI n h)) (hHB : ∀ b o, ha = some ⟨b, o, none⟩ → ¬ SXb gc gp gd gh b) (hu : u < n) (hn : n ≤ 64) (hq : q ≤ 100000)
    (key : Int → Int → Int) (hF : ∀ w', Keep (SXb gc gp gd gh) wS w' → KeyFnS key w') (hmono : ∀ c d g, c ≤ d → key c g ≤ key d g) (hc0 : 0 ≤ c) (hc1 : c ≤ 10000000) (hg : 0 ≤ h u ∧ h u ≤ 1099511627776) (hcF : s.cost u ≤ FAR) (hok : HeapOK plLt q f) (hhs : HHas key h n s (RW q f)) :
    Calls Try.prog 173 #[.pointer (some ⟨sb, 0, none⟩), .int .i64 (u : Int), .int .i64 c, .int .i64 fr] w fun e w' => e = .returned (.tuple #[]) ∧ ∃ a1 q1 c1 f1, SX base n sb gc gp gd gh ov (.slice ha n hc) (.func (.func 93) #[] #[]) (.slice a1 q1 c1) q1 f1 (sreach h s u c fr) wS w' ∧ q1 ≤ q + 1 ∧ HeapOK plLt q1 f1 ∧ HHas key h n (sreach h s u c fr) (RW q1 f1) ∧
      Keep (fun j => SXb gc gp gd gh j ∨ (Value.slice a0 q qc).ownBlock = some j) w w' ∧ ∀ j, (Value.slice a1 q1 c1).ownBlock = some j → (Value.slice a0 q qc).ownBlock = some j ∨ w.heap.size ≤ j := by
  by_cases hcond : u ∉ s.ord ∧ h u ≠ FAR ∧ c < s.cost u
  · have e1 : sreach h s u c fr = { s with cost := upz s.cost u c, pred := upz s.pred u fr } := by unfold sreach; rw [if_pos hcond]
    refine (reach_goS base n sb gc gp gd gh u hc q qc a0 ha ov f s h c fr wS w B hB hS hH hHB hu hn hq key hF hc0 hc1 ⟨hg.1, by have := hcond.2.1; unfold FAR at this; omega⟩ hcond.1 hcond.2.2).mono ?_
    rintro e w' ⟨rfl, gs, cs, hX, hK, hgs⟩
    obtain ⟨h1, h2⟩ := push_ok plLt_ord hok ⟨key c (h u), h u, (u : Int)⟩
    rw [e1]
    refine ⟨rfl, _, _, _, _, hX, Nat.le_refl _, h1, ?_, hK, fun j hj => ?_⟩
    · exact hhas_pred (hhas_push (v := 0) hhs hu hcond.2.2 hcF (fun _ => hmono _ _ _ (by have := hcond.2.2; omega)) h2) _
    · simp only [Value.ownBlock, Option.some.injEq] at hj
      subst hj
      exact hgs
  · have e1 : sreach h s u c fr = s := by unfold sreach; rw [if_neg hcond]
    have hk : u ∈ s.ord ∨ s.cost u ≤ c ∨ h u = 1099511627776 := by
      by_cases h1 : u ∈ s.ord
      · exact .inl h1
      · by_cases h2 : h u = FAR
        · exact .inr (.inr h2)
        · exact .inr (.inl (Int.not_lt.1 fun h3 => hcond ⟨h1, h2, h3⟩))
    rw [e1]
    refine (reach_skip base n sb gc gp gd gh u hc q ha ov _ _ f s h c fr wS w B (Nat.le_trans hB hS.keep.size) hS ?_ hu hn hk).mono ?_
    · intro i hi
      obtain ⟨b, o, g1, g2, g3⟩ := hH i hi
      refine ⟨b, o, g1, g2, fun j x hx => ?_⟩
      exact hS.keep.cu (g3 j x hx) (hHB b o g1)
    · rintro e w' ⟨rfl, rfl⟩
      exact ⟨rfl, _, _, _, _, hS, by omega, hok, hhs, Keep.refl _ _, fun j hj => .inl hj⟩
end Go.Proofs.Ytcehdpeeaogpiaa
