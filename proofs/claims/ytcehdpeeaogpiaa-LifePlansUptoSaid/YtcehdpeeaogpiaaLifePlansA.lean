/-
  Several texts in one:
  The law's question about a plan (life): the closure that LifePlans asks after each third edit and at the end. Condition: a plan, and a net that holds the same.
  The walk of felllaw.LifePlans: it returns true. Conditions: the arguments read as data, and are no longer than their bounds.
  Proved here: felllaw.LifePlans returns true where what is read is of bulk at most 1048576.
-/
import Derived.Test.YtcehdpeeaogpiaaLMC
import Derived.Test.YtcehdpeeaogpiaaWWalkCosts
import Derived.Test.YtcehdpeeaogpiaaSameNet
import Derived.Test.YtcehdpeeaogpiaaFoundA
import Derived.Test.YtcehdpeeaogpiaaStart
import Derived.Test.YtcehdpeeaogpiaaNetL
import Derived.Test.YtcehdpeeaogpiaaQuietH
import Derived.Test.YtcehdpeeaogpiaaLMN
import Derived.Test.YtcehdpeeaogpiaaRTurn
import Derived.Test.YtcehdpeeaogpiaaOpen
import Derived.Deep.RegionHeld3
import Derived.Test.YtcehdpeeaogpiaaUpto
/-! The law's question about a plan (life): the closure that LifePlans asks after each third edit and at the end. Condition: a plan, and a net that holds the same. -/
namespace Go.Proofs.Ytcehdpeeaogpiaa
open Go.RowKit
set_option linter.unusedSimpArgs false
set_option linter.unusedVariables false
theorem life_noerr {n : Nat} {es : List Ed} (h1 : 1 ≤ n) (hn : n ≤ 64) (hl : es.length ≤ 600) (hR : Right n es) : netErr (n : Int) es = 0 := by
  have key : ∀ (xs : List Ed), (∀ e ∈ xs, e ∈ es) → edsErr (n : Int) xs = 0 := by
    intro xs
    induction xs with
    | nil => intro _; rfl
    | cons e r ih =>
      intro h
      have := hR e (h e List.mem_cons_self)
      have he : edErr (n : Int) e = 0 := by
        unfold edErr
        rw [if_neg (by omega), if_neg (by omega)]
      rw [edsErr, if_neg (by rw [he]; simp)]
      exact ih (fun x hx => h x (List.mem_cons_of_mem _ hx))
  unfold netErr
  rw [if_neg (by omega), if_neg (by omega)]
  exact key es (fun _ h => h)
theorem way_cost {n s t : Nat} {es : List Ed} {c : Nat → Int} {p : List Nat} (hn : n ≤ 64) (h0 : netErr (n : Int) es = 0) (hc : LCh es c (s :: p)) (hs : c s = 0) (ht : (s :: p).getLast (by simp) = t) (hall : ∀ x ∈ s :: p, x < n) : wcost (n : Int) es (LP (s :: p)) = (c t, 0) := by
  have hl := nodup_shortS n (s :: p) (lch_up p s hc).1 hall
  have hlen : (LP (s :: p)).length = (s :: p).length := by simp [LP]
  unfold wcost
  rw [if_neg (by rw [h0]; simp), if_neg (by rw [hlen]; simp), if_neg (by rw [hlen]; omega)]
  have hb : (LP (s :: p)).any (badAt (n : Int)) = false := by
    rw [List.any_eq_false]
    intro x hx
    obtain ⟨v, hv, rfl⟩ := List.mem_map.1 hx
    have := hall v hv
    simp [badAt]
    omega
  rw [if_neg (by rw [hb]; simp)]
  have := lch_cost p s 0 hc
  rw [ht, hs] at this
  unfold LP
  rw [this]
  simp
/-- a way in one form -/
theorem lway_form {n s t : Nat} {es : List Ed} {c : Nat → Int} {w0 w' : World} {e : Ending} (h : LWayIs n s t es c w0 e w') : ∃ (a : Option Addr) (m k : Nat) (x er : Int), e = .returned (.tuple #[.agg #[.slice a m k, .int .i64 x], .int .i64 er]) ∧ ((c t = FAR ∧ a = none ∧ m = 0 ∧ k = 0 ∧ x = 0 ∧ er = 5) ∨ (c t < FAR ∧ c s = 0 ∧ x = c t ∧ er = 0 ∧ ∃ p : List Nat, m = p.length + 1 ∧ LCh es c (s :: p) ∧ (s :: p).getLast (by simp) = t ∧ (∀ x ∈ s :: p, x < n) ∧ Own encI 1 3 w' w0.heap.size (.slice a m k) (LP (s :: p)))) := by
  rcases h with ⟨h1, h2⟩ | ⟨h1, h2, p, a, k, h3, h4, h5, h6, h7⟩
  · exact ⟨none, 0, 0, 0, 5, h2, .inl ⟨h1, rfl, rfl, rfl, rfl, rfl⟩⟩
  · exact ⟨a, p.length + 1, k, c t, 0, h6, .inr ⟨h1, h2, rfl, rfl, p, rfl, h3, h4, h5, h7⟩⟩
theorem own_rowE {e : TypeId} {w : World} {B m k : Nat} {a : Option Addr} {es : List Ed} (h : Own encE 3 e w B (.slice a m k) es) : Row encE 3 w w.heap.size a es := by
  obtain ⟨a', k', hv, hrow, -⟩ := h.row lenE
  simp only [Value.slice.injEq] at hv
  obtain ⟨rfl, -, rfl⟩ := hv
  exact hrow
theorem own_rowX {e : TypeId} {w : World} {B m k : Nat} {a : Option Addr} {xs : List Int} (h : Own encI 1 e w B (.slice a m k) xs) : Row encI 1 w w.heap.size a xs := by
  obtain ⟨a', k', hv, hrow, -⟩ := h.row lenI
  simp only [Value.slice.injEq] at hv
  obtain ⟨rfl, -, rfl⟩ := hv
  exact hrow
set_option maxRecDepth 100000 in
set_option maxHeartbeats 8000000 in
theorem told_any (n s t m : Nat) (es : List Ed) (hm : es.length = m) (c l : Nat → Int) (q wk pb pp pg ph pf pt BE : Nat) (ah : Option Addr) (ch : Nat) (A C : Nat → Prop) (w : World) (hO : LPl n s t es c l q wk pb A C w) (hq : q ≤ 99990000000)
    (k0 : w.cell? ⟨pp, 0, none⟩ = some (.pointer (some ⟨pb, 0, none⟩))) (k1 : w.cell? ⟨pg, 0, none⟩ = some (.int .i64 (n : Int))) (k2 : w.cell? ⟨ph, 0, none⟩ = some (.int .i64 (n : Int))) (k3 : w.cell? ⟨ph, 1, none⟩ = some (.slice ah m ch)) (k4 : w.cell? ⟨pf, 0, none⟩ = some (.int .i64 (s : Int))) (k5 : w.cell? ⟨pt, 0, none⟩ = some (.int .i64 (t : Int)))
    (hE : Own encE 3 34 w BE (.slice ah m ch) es) (hA : ∀ j, A j → j ≠ pp ∧ j ≠ pg ∧ j ≠ ph ∧ j ≠ pf ∧ j ≠ pt ∧ (Value.slice ah m ch).ownBlock ≠ some j) :
    Calls Try.prog 48 #[.pointer (some ⟨pp, 0, none⟩), .pointer (some ⟨pg, 0, none⟩), .pointer (some ⟨ph, 0, none⟩), .pointer (some ⟨pf, 0, none⟩), .pointer (some ⟨pt, 0, none⟩)] w fun e w' => e = .returned (.bool true) ∧ ∃ c1 l1 q1 wk1 A1, LPl n s t es c1 l1 q1 wk1 pb A1 C w' ∧ (∀ j, A1 j → lgrown A w w' j) ∧ Keep A w w' ∧ LExit n c1 l1 t ∧ q1 ≤ q + 601 * 128 ∧ (LExit n c l t → wk1 = 0) := by
  have zp := cell_lt k0
  have zg := cell_lt k1
  have zh := cell_lt k2
  have zf := cell_lt k4
  have zt := cell_lt k5
  simp only at zp zg zh zf zt
  have hWy := hide (lpl_way hO hq)
  replace hA := hide hA
  go_enter Try.func48, Try.ntmps48
  go_wp2_with fail
  refine hWy.out.mono ?_
  rintro e w1 ⟨c1, l1, q1, wk1, hP, kA, hX, hwk, hq1, hz, hW⟩
  obtain ⟨a, mm, k, x, er, rfl, hF⟩ := lway_form hW
  have d0 := kA.cu k0 (fun h => (hA.out _ h).1 rfl)
  have d1 := kA.cu k1 (fun h => (hA.out _ h).2.1 rfl)
  have d2 := kA.cu k2 (fun h => (hA.out _ h).2.2.1 rfl)
  have d3 := kA.cu k3 (fun h => (hA.out _ h).2.2.1 rfl)
  have d4 := kA.cu k4 (fun h => (hA.out _ h).2.2.2.1 rfl)
  have d5 := kA.cu k5 (fun h => (hA.out _ h).2.2.2.2.1 rfl)
  have eo1 := kA.own hE (fun j hj ha => (hA.out _ ha).2.2.2.2.2 hj)
  have z1 := kA.size
  obtain ⟨g, hg⟩ : ∃ g, g = w1.heap.size := ⟨_, rfl⟩
  obtain ⟨w2, hw2⟩ : ∃ w2, w2 = w1.alloc (.cells #[.slice a mm k, .int .i64 x] 36) := ⟨_, rfl⟩
  go_upto_region 2 with fail
  simp only [← hw2]
  simp only [← hg]
  have hb12 : Below w1.heap.size w1 w2 := by rw [hw2]; exact up_alloc (Below.refl _ _) (Nat.le_refl _)
  have r0 : w2.cell? ⟨g, 0, none⟩ = some (.slice a mm k) := by rw [hw2, hg]; simp [go_sem]
  have r1 : w2.cell? ⟨g, 1, none⟩ = some (.int .i64 x) := by rw [hw2, hg]; simp [go_sem]
  have hz12 := hb12.size
  have hgz : g < w2.heap.size := cell_lt r0
  have e0 := cu_below hb12 d0 (by show pp < _; omega)
  have e1 := cu_below hb12 d1 (by show pg < _; omega)
  have e2 := cu_below hb12 d2 (by show ph < _; omega)
  have e3 := cu_below hb12 d3 (by show ph < _; omega)
  have e4 := cu_below hb12 d4 (by show pf < _; omega)
  have e5 := cu_below hb12 d5 (by show pt < _; omega)
  have eo2 := (Keep.new (S := fun _ => False) hb12).own eo1 (fun _ _ e => e)
  have hP2 := hide (hP.stays hb12)
  have nets := hP.net
  have h12 := hide hb12
  have key0 := hide (show ∀ w', Below w2.heap.size w2 w' → (fun w' => Below w2.heap.size w2 w' ∧ w'.cell? ⟨pp, 0, none⟩ = some (.pointer (some ⟨pb, 0, none⟩)) ∧ w'.cell? ⟨pg, 0, none⟩ = some (.int .i64 (n : Int)) ∧ w'.cell? ⟨ph, 0, none⟩ = some (.int .i64 (n : Int)) ∧ w'.cell? ⟨ph, 1, none⟩ = some (.slice ah m ch) ∧ w'.cell? ⟨pf, 0, none⟩ = some (.int .i64 (s : Int)) ∧ w'.cell? ⟨pt, 0, none⟩ = some (.int .i64 (t : Int))) w' from fun w' hb => ⟨hb, cu_below hb e0 (by show pp < _; omega), cu_below hb e1 (by show pg < _; omega), cu_below hb e2 (by show ph < _; omega), cu_below hb e3 (by show ph < _; omega), cu_below hb e4 (by show pf < _; omega), cu_below hb e5 (by show pt < _; omega)⟩)
  have hWk := hide (fun (w' : World) (hb : Below w2.heap.size w2 w') => (lpl_work (hP2.out.stays hb)).mono (R' := fun e w'' => e = .returned (.int .i64 (wk1 : Int)) ∧ Below w'.heap.size w' w'') (fun e w'' h => ⟨h.1, by rw [h.2]; exact Below.refl _ _⟩))
  have hNt := hide (fun (w' : World) (hb : Below w2.heap.size w2 w') => lpl_net (hP2.out.stays hb))
  rw [hm] at hNt nets
  obtain ⟨hR, hpos, hm6, hn, hs, ht, hL⟩ := nets
  have hRh := hide (show ∀ w', Below w2.heap.size w2 w' → Row encE 3 w' w'.heap.size ah es from fun w' hb => by
    have o := (Keep.new (S := fun _ => False) hb).own eo2 (fun _ _ e => e)
    exact own_rowE o)
  have hSN := hide (fun (w' : World) (hb : Below w2.heap.size w2 w') (an : Option Addr) (kn : Nat) (o : Row encE 3 w' w'.heap.size an es) => samenet_len (n : Int) (n : Int) an ah kn ch es es m w' hm hm o (hRh.out w' hb) (by omega) true (by simp))
  have hDi := hide (fun (w' : World) (hb : Below w2.heap.size w2 w') => by have := rdist_new n ah ch es s w' w'.heap.size (Nat.le_refl _) (hRh.out w' hb) (by omega) hn (by omega) hR hs; rw [hm] at this; exact this)
  have hdt : distF n es s t = c1 t := (life_dist hL (led_of hR hpos) hs ht hX).symm
  have iu : (0 : Int) ≤ (t : Int) ∧ (t : Int) < (n : Int) := by omega
  have q0 : decide ((wk1 : Int) < 0) = false := by simp
  have hmul : IntKind.i64.wrap (2 * (n : Int)) = 2 * (n : Int) := IntWalk.i64_in _ (by omega)
  have q1' : decide ((wk1 : Int) > 2 * (n : Int)) = false := by simp; omega
  replace hw2 := hide hw2
  replace hg := hide hg
  replace hF := hide hF
  replace hX := hide hX
  replace hP := hide hP
  replace kA := hide kA
  replace hz := hide hz
  replace hL := hide hL
  replace hR := hide hR
  replace hpos := hide hpos
  replace hm := hide hm
  clear hW hO k0 k1 k2 k3 k4 k5 hE d0 d1 d2 d3 d4 d5 eo1 eo2 hb12 hWy
  refine wp_region_held_drew (S := (fun w' => Below w2.heap.size w2 w' ∧ w'.cell? ⟨pp, 0, none⟩ = some (.pointer (some ⟨pb, 0, none⟩)) ∧ w'.cell? ⟨pg, 0, none⟩ = some (.int .i64 (n : Int)) ∧ w'.cell? ⟨ph, 0, none⟩ = some (.int .i64 (n : Int)) ∧ w'.cell? ⟨ph, 1, none⟩ = some (.slice ah m ch) ∧ w'.cell? ⟨pf, 0, none⟩ = some (.int .i64 (s : Int)) ∧ w'.cell? ⟨pt, 0, none⟩ = some (.int .i64 (t : Int)))) (by kernel_rfl) ?_ (fun hHeld => ?_)
  · exact key0.out _ (below_drew _)
  (try dsimp only at hHeld)
  refine planH [0] ?_
  iterate 1
    refine PlanH.take (v := ?_) (List.getElem?_toArray.trans rfl) (by kernel_rfl) (fun _ _ _ h => h) (Or.inl ⟨by rfl, ?_⟩) hHeld ?_
    rotate_left
    · intro w hSw; (try dsimp only at hSw); go_simp; (try with_reducible rfl)
    try simp only [Act.put, List.setIfInBounds_toArray, List.set_cons_zero, List.set_cons_succ]
  refine wpAnyH_ready (rs := [1]) (by kernel_rfl) (by simp) (AllReadyH.cons (List.getElem?_toArray.trans rfl) (fun K hK => ?_) AllReadyH.nil)
  (go_simp; refine (hWk.out _ hHeld.1).mono ?_; rintro e w3 ⟨rfl, hb3⟩)
  have hHeld := key0.out _ (below_step hHeld.1 hb3)
  refine hK.out _ _ hHeld (fun _ => ?_)
  clear hK K; try simp only [Act.put, List.setIfInBounds_toArray, List.set_cons_zero, List.set_cons_succ]
  refine planH [2, 3, 4, 6, 7, 8] ?_
  iterate 6
    refine PlanH.take (v := ?_) (List.getElem?_toArray.trans rfl) (by kernel_rfl) (fun _ _ _ h => h) (Or.inl ⟨by rfl, ?_⟩) hHeld ?_
    rotate_left
    · intro w hSw; (try dsimp only at hSw); go_simp; (try with_reducible rfl)
    try simp only [Act.put, List.setIfInBounds_toArray, List.set_cons_zero, List.set_cons_succ]
  refine wpAnyH_ready (rs := [5]) (by kernel_rfl) (by simp) (AllReadyH.cons (List.getElem?_toArray.trans rfl) (fun K hK => ?_) AllReadyH.nil)
  (go_simp; refine (hWk.out _ hHeld.1).mono ?_; rintro e w4 ⟨rfl, hb4⟩)
  have hHeld := key0.out _ (below_step hHeld.1 hb4)
  refine hK.out _ _ hHeld (fun _ => ?_)
  clear hK K; try simp only [Act.put, List.setIfInBounds_toArray, List.set_cons_zero, List.set_cons_succ]
  refine planH [9, 10, 11, 12, 14] ?_
  iterate 5
    refine PlanH.take (v := ?_) (List.getElem?_toArray.trans rfl) (by kernel_rfl) (fun _ _ _ h => h) (Or.inl ⟨by rfl, ?_⟩) hHeld ?_
    rotate_left
    · intro w hSw; (try dsimp only at hSw); go_simp; (try with_reducible rfl)
    try simp only [Act.put, List.setIfInBounds_toArray, List.set_cons_zero, List.set_cons_succ]
  refine wpAnyH_ready (rs := [13]) (by kernel_rfl) (by simp) (AllReadyH.cons (List.getElem?_toArray.trans rfl) (fun K hK => ?_) AllReadyH.nil)
  (go_simp; refine (hNt.out _ hHeld.1).mono ?_; rintro e w5 ⟨an, kn, rfl, oN, hb5⟩)
  have hHeld := key0.out _ (below_step hHeld.1 hb5)
  refine hK.out _ _ hHeld (fun _ => ?_)
  clear hK K; try simp only [Act.put, List.setIfInBounds_toArray, List.set_cons_zero, List.set_cons_succ]
  refine wpAnyH_ready (rs := [15]) (by kernel_rfl) (by simp) (AllReadyH.cons (List.getElem?_toArray.trans rfl) (fun K hK => ?_) AllReadyH.nil)
  (go_simp; refine (hSN.out _ hHeld.1 _ _ (own_rowE oN)).mono ?_; rintro e w6 ⟨rfl, hb6⟩)
  have hHeld := key0.out _ (below_step hHeld.1 hb6)
  refine hK.out _ _ hHeld (fun _ => ?_)
  clear hK K; try simp only [Act.put, List.setIfInBounds_toArray, List.set_cons_zero, List.set_cons_succ]
  refine planH [16, 17] ?_
  iterate 2
    refine PlanH.take (v := ?_) (List.getElem?_toArray.trans rfl) (by kernel_rfl) (fun _ _ _ h => h) (Or.inl ⟨by rfl, ?_⟩) hHeld ?_
    rotate_left
    · intro w hSw; (try dsimp only at hSw); go_simp; (try with_reducible rfl)
    try simp only [Act.put, List.setIfInBounds_toArray, List.set_cons_zero, List.set_cons_succ]
  refine wpAnyH_done (by kernel_rfl) ?_ _
  have hb6' := hHeld.1
  clear hHeld hb3 hb4 hb5 hb6 oN hWk hNt hSN
  go_upto_region 4 with fail
  refine wp_region_end (S := (fun w' => Below w2.heap.size w2 w' ∧ w'.cell? ⟨pp, 0, none⟩ = some (.pointer (some ⟨pb, 0, none⟩)) ∧ w'.cell? ⟨pg, 0, none⟩ = some (.int .i64 (n : Int)) ∧ w'.cell? ⟨ph, 0, none⟩ = some (.int .i64 (n : Int)) ∧ w'.cell? ⟨ph, 1, none⟩ = some (.slice ah m ch) ∧ w'.cell? ⟨pf, 0, none⟩ = some (.int .i64 (s : Int)) ∧ w'.cell? ⟨pt, 0, none⟩ = some (.int .i64 (t : Int)))) (t := 6) (by kernel_rfl) ?_ (fun hHeld hInv => ?_)
  · exact key0.out _ (up_drew hb6')
  replace hInv := hide hInv
  refine planE [0, 1, 3] ?_
  iterate 3
    refine PlanE.take (v := ?_) (List.getElem?_toArray.trans rfl) (by kernel_rfl) (fun _ _ _ h => h) (Or.inl ⟨by rfl, ?_⟩) hInv.out (by assumption) (fun hInv' => ?_)
    rotate_left
    · intro w hSw; (try dsimp only at hSw); go_simp; (try with_reducible rfl)
    replace hInv := hide hInv'; clear hInv'; try simp only [Act.put, List.setIfInBounds_toArray, List.set_cons_zero, List.set_cons_succ]
  refine wpAnyE_one (i := 2) (List.getElem?_toArray.trans rfl) (by kernel_rfl) (fun K hK => ?_) hInv.out
  (go_simp; refine (hDi.out _ hHeld.1).mono ?_; rintro e w8 ⟨gd, cd, rfl, rD, hb8, -, hd8⟩; obtain ⟨b', o', hbo, -, hdv⟩ := rD.atI t ht; (simp only [Option.some.injEq, Addr.mk.injEq, and_true] at hbo); obtain ⟨rfl, rfl⟩ := hbo; rw [Nat.zero_add, hdt] at hdv)
  have hHeld := key0.out _ (below_step hHeld.1 hb8)
  refine hK.out _ _ (fun _ => hHeld) (fun hInv' => ?_)
  clear hK K; replace hInv := hide (hInv' (by decide)); clear hInv'; try simp only [Act.put, List.setIfInBounds_toArray, List.set_cons_zero, List.set_cons_succ]
  refine planE [4] ?_
  iterate 1
    refine PlanE.take (v := ?_) (List.getElem?_toArray.trans rfl) (by kernel_rfl) (fun _ _ _ h => h) (Or.inl ⟨by rfl, ?_⟩) hInv.out (by assumption) (fun hInv' => ?_)
    rotate_left
    · intro w hSw; (try dsimp only at hSw); go_simp; (try with_reducible rfl)
    replace hInv := hide hInv'; clear hInv'; try simp only [Act.put, List.setIfInBounds_toArray, List.set_cons_zero, List.set_cons_succ]
  refine wpAnyE_one (i := 5) (List.getElem?_toArray.trans rfl) (by kernel_rfl) (fun K hK => ?_) hInv.out
  ((try dsimp only at hHeld); go_simp)
  have hHeld := hHeld
  refine hK.out _ _ (fun _ => hHeld) (fun hInv' => ?_)
  clear hK K; replace hInv := hide (hInv' (by decide)); clear hInv'; try simp only [Act.put, List.setIfInBounds_toArray, List.set_cons_zero, List.set_cons_succ]
  refine wpAnyE_one (i := 6) (List.getElem?_toArray.trans rfl) (by kernel_rfl) (fun K hK => ?_) hInv.out
  (try dsimp only at hHeld); go_simp
  refine hK.out _ _ (fun h => absurd rfl h) (fun _ => ?_)
  clear hK K hInv; try simp only [Act.put, List.setIfInBounds_toArray, List.set_cons_zero, List.set_cons_succ]
  refine wpAnyE_done (by kernel_rfl) ?_ _
  have hb28 := hHeld.1
  have e0 := cu_below hb28 e0 (by show pp < _; omega)
  have e2 := cu_below hb28 e2 (by show ph < _; omega)
  have e3 := cu_below hb28 e3 (by show ph < _; omega)
  have e1 := cu_below hb28 e1 (by show pg < _; omega)
  have e4 := cu_below hb28 e4 (by show pf < _; omega)
  have e5 := cu_below hb28 e5 (by show pt < _; omega)
  have r0 := cu_below hb28 r0 hgz
  have r1 := cu_below hb28 r1 hgz
  have hz28 := hb28.size
  have hR8 := hide (hRh.out _ hb28)
  have hP8 := hide (hP2.out.stays hb28)
  have h18 := hide ((h12.out.trans (hb28.mono hz12) : Below w1.heap.size w1 w8))
  have hfin := hide (fun (w' : World) (hb : Below w8.heap.size w8 w') => (show ∃ c1 l1 q1 wk1 A1, LPl n s t es c1 l1 q1 wk1 pb A1 C w' ∧ (∀ j, A1 j → lgrown A w w' j) ∧ Keep A w w' ∧ LExit n c1 l1 t ∧ q1 ≤ q + 601 * 128 ∧ (LExit n c l t → wk1 = 0) from by
    have hk : Below w1.heap.size w1 w' := h18.out.trans (hb.mono h18.out.size)
    exact ⟨c1, l1, q1, wk1, _, hP8.out.stays hb, fun j hj => hj.imp id (fun h => ⟨h.1, Nat.lt_of_lt_of_le h.2 hk.size⟩), kA.out.trans2 (Keep.new (S := fun _ => False) hk) (fun j hj => hj.elim), hX.out, by omega, fun h => (hz.out h).1⟩))
  clear hHeld hP2 key0 hDi hb28 rD hb8 hdv hd8
  rcases hF.out with ⟨f1, rfl, rfl, rfl, rfl, rfl⟩ | ⟨f1, f2, rfl, rfl, p, rfl, f3, f4, f5, f6⟩
  · rw [f1]
    have qf : ((FAR : Int) == 1099511627776) = true := by unfold FAR; decide
    unfold FAR at qf ⊢
    clear hF f1
    go_wp2_with fail
    refine (sw_any none none 0 0 0 [] 0 _ rfl (fun i hi => by simp at hi) (fun i hi => by simp at hi) (by omega)).mono ?_
    rintro e w9 ⟨rfl, hb9⟩
    have hf := hfin.out _ hb9
    go_wp2
    go_ret
    exact ⟨rfl, hf⟩
  · have qf : (c1 t == 1099511627776) = false := by unfold FAR at f1; simp; omega
    have hlen : (LP (s :: p)).length = p.length + 1 := by simp [LP]
    have o8 := hide ((Keep.new (S := fun _ => False) h18.out).own f6 (fun _ _ e => e))
    obtain ⟨ga, rfl, hga1, hga2⟩ := o8.out.blockI' (by omega)
    have hwc := way_cost hn (life_noerr (by omega) hn (by rw [hm.out]; exact hm6) hR.out) f3 f2 f4 f5
    have hlast : (LP (s :: p))[p.length]? = some (t : Int) := by
      have : (s :: p)[p.length]? = some t := by
        rw [← f4, List.getLast_eq_getElem]
        simp
      unfold LP
      rw [List.getElem?_map, this]
      rfl
    have hpl : p.length < 64 := by have := nodup_shortS n (s :: p) (lch_up p s f3).1 f5; simp at this; omega
    have hrw := hide (show Calls Try.prog 54 #[.agg #[.int .i64 (n : Int), .slice ah m ch], .slice (some ⟨ga, 0, none⟩) (p.length + 1) k] w8 fun e w' => e = .returned (.tuple #[.int .i64 (c1 t), .int .i64 0]) ∧ Below w8.heap.size w8 w' from by
      have := rwcost_any (n : Int) ah ch es (some ⟨ga, 0, none⟩) k (LP (s :: p)) w8 w8.heap.size (Nat.le_refl _) hR8.out (own_rowX o8.out) (by rw [hm.out]; omega) (by rw [hlen]; omega)
      rw [hwc, hlen, hm.out] at this
      exact this)
    have s0 : w8.cell? ⟨ga, 0, none⟩ = some (.int .i64 (s : Int)) := by
      have := o8.out.getI 0 (by rw [hlen]; omega)
      simpa [LP] using this
    have s1 : w8.cell? ⟨ga, p.length, none⟩ = some (.int .i64 (t : Int)) := by
      have := o8.out.getI p.length (by rw [hlen]; omega)
      rw [this, (List.getElem_eq_iff (by rw [hlen]; omega)).2 hlast]
    have zga := cell_lt s0
    simp only at zga
    have iu0 : (0 : Int) ≤ 0 ∧ (0 : Int) < ((p.length + 1 : Nat) : Int) := by omega
    have iu1 : (0 : Int) ≤ (p.length : Int) ∧ (p.length : Int) < ((p.length + 1 : Nat) : Int) := by omega
    have hsub : IntKind.i64.wrap (((p.length + 1 : Nat) : Int) - 1) = (p.length : Int) := by rw [IntWalk.i64_in _ (by omega)]; omega
    clear hF f1 f2 f3 f4 f5 f6 hwc hlast hlen hga1 hga2 o8 hR8
    go_wp2_with fail
    refine hrw.out.mono ?_
    rintro e w9 ⟨rfl, hb9⟩
    have hf := hide (fun k => hfin.out _ (up_drewN (n := k) hb9))
    have s0 := cu_below hb9 s0 zga
    have s1 := cu_below hb9 s1 zga
    have r0 := cu_below hb9 r0 (by show g < _; omega)
    have r1 := cu_below hb9 r1 (by show g < _; omega)
    have e4 := cu_below hb9 e4 (by show pf < _; omega)
    have e5 := cu_below hb9 e5 (by show pt < _; omega)
    have hz89 := hb9.size
    clear hb9 hrw hfin
    go_wp2
    go_quiet (fail)
    go_wp2
    go_ret
    exact ⟨rfl, hf.out _⟩
end Go.Proofs.Ytcehdpeeaogpiaa

/-! The walk of felllaw.LifePlans: it returns true. Conditions: the arguments read as data, and are no longer than their bounds. -/
namespace Go.Proofs.Ytcehdpeeaogpiaa
open Go.RowKit
set_option linter.unusedSimpArgs false
set_option linter.unusedVariables false
theorem life_set_up {w0 w : World} {p : Addr} {u : Value} (h : Below w0.heap.size w0 w) (hp : w0.heap.size ≤ p.block) : Below w0.heap.size w0 (w.setCell p u) := h.setCell hp u
/-- the law's own copy of the net -/
def MidH (N : Int) (m : Nat) (es : List Ed) (w0 : World) (s3 : Value) (wx : World) : Prop := ∃ p av c', s3 = .pointer (some ⟨p, 0, none⟩) ∧ w0.heap.size ≤ p ∧ wx.cell? ⟨p, 0, none⟩ = some (.int .i64 N) ∧ wx.cell? ⟨p, 1, none⟩ = some (.slice av m c') ∧
  Own encE 3 34 wx w0.heap.size (.slice av m c') es ∧ (Value.slice av m c').ownBlock ≠ some p ∧ p < wx.heap.size ∧ Below w0.heap.size w0 wx
/-- what holds between the law's edits: es the plan's edges, eh the law's own -/
structure LawI (n s t m : Nat) (w w3 : World) (pp pg ph pf pt pb : Nat) (av : Option Addr) (c' : Nat) (C : Nat → Prop) (es eh : List Ed) (c l : Nat → Int) (q wk : Nat) (A : Nat → Prop) (wr : World) : Prop where
  hO : LPl n s t es c l q wk pb A C wr
  len : es.length = m
  lenh : eh.length = m
  own : Own encE 3 34 wr w3.heap.size (.slice av m c') eh
  kp : wr.cell? ⟨pp, 0, none⟩ = some (.pointer (some ⟨pb, 0, none⟩))
  g0 : wr.cell? ⟨pg, 0, none⟩ = some (.int .i64 (n : Int))
  h0 : wr.cell? ⟨ph, 0, none⟩ = some (.int .i64 (n : Int))
  h1 : wr.cell? ⟨ph, 1, none⟩ = some (.slice av m c')
  f0 : wr.cell? ⟨pf, 0, none⟩ = some (.int .i64 (s : Int))
  t0 : wr.cell? ⟨pt, 0, none⟩ = some (.int .i64 (t : Int))
  b : Below w.heap.size w wr
  ap : ∀ j, A j ∨ C j → w.heap.size ≤ j ∧ j ≠ pp ∧ j ≠ pg ∧ j ≠ ph ∧ j ≠ pf ∧ j ≠ pt ∧ (Value.slice av m c').ownBlock ≠ some j
  ne : ∀ j, (Value.slice av m c').ownBlock = some j → w.heap.size ≤ j ∧ j ≠ pp ∧ j ≠ pg ∧ j ≠ ph ∧ j ≠ pf ∧ j ≠ pt
section
variable {n s t m : Nat} {w w3 : World} {pp pg ph pf pt pb : Nat} {av : Option Addr} {c' : Nat} {C : Nat → Prop} {es eh : List Ed} {c l : Nat → Int} {q wk : Nat} {A : Nat → Prop} {wr w' : World}
theorem LawI.stays (h : LawI n s t m w w3 pp pg ph pf pt pb av c' C es eh c l q wk A wr) (hb : Below wr.heap.size wr w') : LawI n s t m w w3 pp pg ph pf pt pb av c' C es eh c l q wk A w' := by
  have kp : Keep (fun _ => False) wr w' := Keep.new hb
  exact ⟨h.hO.stays hb, h.len, h.lenh, kp.own h.own (fun _ _ e => e), kp.cu h.kp id, kp.cu h.g0 id, kp.cu h.h0 id, kp.cu h.h1 id, kp.cu h.f0 id, kp.cu h.t0 id, h.b.trans (hb.mono h.b.size), h.ap, h.ne⟩
/-- the plan changed -/
theorem LawI.plan {es2 : List Ed} {c2 l2 : Nat → Int} {q2 wk2 : Nat} {A2 : Nat → Prop} (h : LawI n s t m w w3 pp pg ph pf pt pb av c' C es eh c l q wk A wr) (kp : Keep A wr w') (hO : LPl n s t es2 c2 l2 q2 wk2 pb A2 C w') (hl : es2.length = m) (hA : ∀ j, A2 j → lgrown A wr w' j) : LawI n s t m w w3 pp pg ph pf pt pb av c' C es2 eh c2 l2 q2 wk2 A2 w' := by
  have n1 := fun (h1 : A pp) => (h.ap _ (.inl h1)).2.1 rfl
  have n2 := fun (h1 : A pg) => (h.ap _ (.inl h1)).2.2.1 rfl
  have n3 := fun (h1 : A ph) => (h.ap _ (.inl h1)).2.2.2.1 rfl
  have n4 := fun (h1 : A pf) => (h.ap _ (.inl h1)).2.2.2.2.1 rfl
  have n5 := fun (h1 : A pt) => (h.ap _ (.inl h1)).2.2.2.2.2.1 rfl
  have zp := cell_lt h.kp
  have zg := cell_lt h.g0
  have zh := cell_lt h.h0
  have zf := cell_lt h.f0
  have zt := cell_lt h.t0
  simp only at zp zg zh zf zt
  have hbz := h.b.size
  refine ⟨hO, hl, h.lenh, kp.own h.own (fun j hj ha => (h.ap j (.inl ha)).2.2.2.2.2.2 hj), kp.cu h.kp n1, kp.cu h.g0 n2, kp.cu h.h0 n3, kp.cu h.h1 n3, kp.cu h.f0 n4, kp.cu h.t0 n5, h.b.trans (kp.toBelow (fun j hj => (h.ap j (.inl hj)).1) hbz), fun j hj => ?_, h.ne⟩
  rcases hj with hj | hj
  · rcases hA j hj with g | g
    · exact h.ap j (.inl g)
    · exact ⟨by omega, by omega, by omega, by omega, by omega, by omega, fun e => by have := (h.own.block_lt j e).2; omega⟩
  · exact h.ap j (.inr hj)
/-- the law's own edge is written -/
theorem LawI.store {ge x : Nat} {y : Int} (h : LawI n s t m w w3 pp pg ph pf pt pb (some ⟨ge, 0, none⟩) c' C es eh c l q wk A wr) (hx : x < m) : LawI n s t m w w3 pp pg ph pf pt pb (some ⟨ge, 0, none⟩) c' C es (edSet eh x y) c l q wk A (wr.setCell ⟨ge, x * 3 + 2, none⟩ (.int .i64 y)) := by
  have hn := h.ne ge rfl
  have hx2 : x < eh.length := by rw [h.lenh]; exact hx
  have kp := (Keep.refl (fun j => j = ge) wr).setCell (p := ⟨ge, x * 3 + 2, none⟩) (.inl rfl) (.int .i64 y)
  exact ⟨h.hO.keep kp (fun j hj e => (h.ap j hj).2.2.2.2.2.2 (by rw [e]; rfl)), h.len, by rw [edSet_len]; exact h.lenh, by rw [edSet_is hx2]; exact h.own.put lenE x hx2 2 (by omega) _ ⟨eh[x].u, eh[x].v, y⟩ (by simp [encE]), kp.cu h.kp (fun e => hn.2.1 e.symm), kp.cu h.g0 (fun e => hn.2.2.1 e.symm), kp.cu h.h0 (fun e => hn.2.2.2.1 e.symm), kp.cu h.h1 (fun e => hn.2.2.2.1 e.symm), kp.cu h.f0 (fun e => hn.2.2.2.2.1 e.symm), kp.cu h.t0 (fun e => hn.2.2.2.2.2 e.symm), h.b.setCell hn.1 _, h.ap, h.ne⟩
theorem setErr_zero {m : Nat} {x y : Int} (h : setErr m x y = 0) : 0 ≤ x ∧ x < (m : Int) ∧ 1 ≤ y ∧ y ≤ 10000 := by
  unfold setErr at h
  by_cases h1 : x < 0 ∨ x ≥ (m : Int)
  · rw [if_pos h1] at h; omega
  · rw [if_neg h1] at h
    by_cases h2 : y < 1 ∨ y > 10000
    · rw [if_pos h2] at h; omega
    · omega
theorem lawi_set (x y : Int) (h : LawI n s t m w w3 pp pg ph pf pt pb av c' C es eh c l q wk A wr) (hq : q ≤ 99990000000) :
    Calls Try.prog 55 #[.pointer (some ⟨pb, 0, none⟩), .int .i64 x, .int .i64 y] wr fun e w' => e = .returned (.int .i64 (setErr m x y)) ∧ ∃ es2 l2 q2 A2, LawI n s t m w w3 pp pg ph pf pt pb av c' C es2 eh c l2 q2 wk A2 w' ∧ q2 ≤ q + 1 ∧ (setErr m x y = 0 → es2 = edSet es x.toNat y) ∧ (setErr m x y ≠ 0 → es2 = es) ∧ Keep A wr w' := by
  by_cases h0 : setErr m x y = 0
  · obtain ⟨h1, h2, h3, h4⟩ := setErr_zero h0
    obtain ⟨i, rfl⟩ := Int.eq_ofNat_of_zero_le h1
    refine (lpl_set_ok h.hO i y (by rw [h.len]; omega) ⟨h3, h4⟩ hq).mono ?_
    rintro e w' ⟨rfl, l1, q1, g1, g2, g3⟩
    refine ⟨by rw [h0], edSet es i y, l1, q1, _, h.plan g2 g1 (by rw [edSet_len]; exact h.len) (fun j hj => hj), g3, fun _ => by simp, fun hn => absurd h0 hn, g2⟩
  · have h1 := lpl_set_bad h.hO x y (by rw [h.len]; exact h0)
    rw [h.len] at h1
    refine h1.mono ?_
    rintro e w' ⟨rfl, hb⟩
    exact ⟨rfl, es, l, q, A, h.stays hb, Nat.le_succ _, fun he => absurd he h0, fun _ => rfl, Keep.new hb⟩
theorem lawi_told (h : LawI n s t m w w3 pp pg ph pf pt pb av c' C es es c l q wk A wr) (hq : q ≤ 99990000000) :
    Calls Try.prog 48 #[.pointer (some ⟨pp, 0, none⟩), .pointer (some ⟨pg, 0, none⟩), .pointer (some ⟨ph, 0, none⟩), .pointer (some ⟨pf, 0, none⟩), .pointer (some ⟨pt, 0, none⟩)] wr fun e w' => e = .returned (.bool true) ∧ ∃ c1 l1 q1 wk1 A1, LawI n s t m w w3 pp pg ph pf pt pb av c' C es es c1 l1 q1 wk1 A1 w' ∧ q1 ≤ q + 601 * 128 ∧ LExit n c1 l1 t ∧ (LExit n c l t → wk1 = 0) := by
  refine (told_any n s t m es h.len c l q wk pb pp pg ph pf pt _ av c' A C wr h.hO hq h.kp h.g0 h.h0 h.h1 h.f0 h.t0 h.own (fun j hj => (h.ap j (.inl hj)).2)).mono ?_
  rintro e w' ⟨rfl, c1, l1, q1, wk1, A1, g1, g2, g3, g4, g5, g6⟩
  exact ⟨rfl, c1, l1, q1, wk1, A1, h.plan g3 g1 h.len g2, g5, g4, g6⟩
end
set_option maxRecDepth 100000 in
set_option maxHeartbeats 2000000 in
theorem walk_LifePlans (x0 : Int) (a0 : Option Addr) (cap0 : Nat) (es0 : List Ed) (x1 : Int) (x2 : Int) (a3 : Option Addr) (cap3 : Nat) (x3 : List P2) (w : World) (b0 : Bd x0) (l0 : es0.length ≤ cap0) (m0 : cap0 ≤ maxLen) (r0 : Row encE 3 w w.heap.size a0 es0) (be0 : ∀ x ∈ es0, BdE x) (b1 : Bd x1) (b2 : Bd x2) (l3 : x3.length ≤ cap3) (m3 : cap3 ≤ maxLen) (r3 : Row encP 2 w w.heap.size a3 x3) (b3 : ∀ x ∈ x3, BdP x) (n0 : es0.length ≤ 1048576) (n3 : x3.length ≤ 524288) :
    Calls Try.prog 8 #[.agg #[.int .i64 x0, .slice a0 es0.length cap0], .int .i64 x1, .int .i64 x2, .slice a3 x3.length cap3] w fun e w' => e = .returned (.bool true) ∧ Below w.heap.size w w' := by
  have hl : es0.length ≤ 9223372036854775807 := by omega
  have hLk := hide (fun (b : Nat) (w' : World) (hb : Below w.heap.size w w') (hP : Row encI 1 w' w'.heap.size (some ⟨b, 0, none⟩) [x1, x2]) => rlook_any x0 a0 cap0 es0 (some ⟨b, 0, none⟩) 2 2 [x1, x2] rfl w' w'.heap.size (Nat.le_refl _) ((r0.below hb (Nat.le_refl _)).mono hb.size) hP hl (by omega))
  by_cases h0 : lookErr x0 es0 [x1, x2] = 0
  · obtain ⟨g1, g2⟩ := look_ok h0
    obtain ⟨g3, g4⟩ := posErr_ok g1
    obtain ⟨n1, n2, n3', n4⟩ := netErr_ok g3
    obtain ⟨n, rfl⟩ := Int.eq_ofNat_of_zero_le (show 0 ≤ x0 by omega)
    have g5 := g2 x1 (by simp)
    have g6 := g2 x2 (by simp)
    obtain ⟨s, rfl⟩ := Int.eq_ofNat_of_zero_le g5.1
    obtain ⟨t, rfl⟩ := Int.eq_ofNat_of_zero_le g6.1
    have hs : s < n := by omega
    have ht : t < n := by omega
    have hR : Right n es0 := n4
    have hn : n ≤ 64 := by omega
    have hNew := hide (fun (w' : World) (hb : Below w.heap.size w w') => lnew_ok n s t a0 cap0 es0 w' w.heap.size hb.size (r0.below hb (Nat.le_refl _)) h0 hs ht hn n3' hR g4)
    have hCl := hide (fun (w' : World) (hb : Below w.heap.size w w') => (cloneE a0 cap0 es0 w' w.heap.size hb.size (r0.below hb (Nat.le_refl _)) (by omega)).mono (R' := fun e w'' => ∃ av c', e = .returned (.slice av es0.length c') ∧ Own encE 3 34 w'' w'.heap.size (.slice av es0.length c') es0 ∧ Below w'.heap.size w' w'') (by rintro e w'' ⟨av, c', h1, h2, h3⟩; exact ⟨av, c', h1, h2, h3⟩))
    rw [h0] at hLk
    obtain ⟨m, hm⟩ : ∃ m, m = es0.length := ⟨_, rfl⟩
    rw [← hm] at hNew hCl hLk n0 n3' l0 hl ⊢
    replace hR := hide hR
    have hp := hide g4
    replace hm := hide hm
    replace r3 := hide r3
    clear g1 g2 g3 g4 g5 g6 n1 n2 n4 h0 be0 b0 b1 b2 r0 b3
    go_enter Try.func8, Try.ntmps8
    go_wp2_with fail
    refine (hNew.out _ (by exact (by repeat (first | with_reducible exact Below.refl _ _ | with_reducible assumption | with_reducible refine up_drewN ?_ | with_reducible refine up_drew ?_ | (with_reducible refine up_alloc ?_ ?_; rotate_left; (first | omega | (simp <;> omega) | simp)) | (with_reducible refine up_set ?_ ?_; rotate_left; (first | omega | (simp <;> omega) | simp)) | (with_reducible refine Below.trans ?_ (Below.mono (by with_reducible assumption) ?_); rotate_left; (first | omega | (simp <;> omega) | simp)))))).mono ?_
    rintro e w1 ⟨pb, q, A, C, rfl, hO, hq, hAC, hCl1, hb1⟩
    have k0 := cu_below hb1 (p := ⟨w.heap.size, 0, none⟩) (v := .int .i64 (n : Int)) (by simp [go_sem]) (by simp; omega)
    have k1 := cu_below hb1 (p := ⟨w.heap.size, 1, none⟩) (v := .slice a0 m cap0) (by simp [go_sem]) (by simp; omega)
    have k2 := cu_below hb1 (p := ⟨w.heap.size + 1, 0, none⟩) (v := .int .i64 (s : Int)) (by simp [go_sem]) (by simp)
    have k3 := cu_below hb1 (p := ⟨w.heap.size + 1 + 1, 0, none⟩) (v := .int .i64 (t : Int)) (by simp [go_sem]) (by simp)
    have hb2 := hide (((by repeat (first | with_reducible exact Below.refl _ _ | with_reducible assumption | with_reducible refine up_drewN ?_ | with_reducible refine up_drew ?_ | (with_reducible refine up_alloc ?_ ?_; rotate_left; (first | omega | (simp <;> omega) | simp)) | (with_reducible refine up_set ?_ ?_; rotate_left; (first | omega | (simp <;> omega) | simp)) | (with_reducible refine Below.trans ?_ (Below.mono (by with_reducible assumption) ?_); rotate_left; (first | omega | (simp <;> omega) | simp)))) : Below w.heap.size w _).trans (hb1.mono (by simp; omega)))
    have z1 : w.heap.size + 3 ≤ w1.heap.size := by have := hb1.size; simp at this; omega
    have hA0 : ∀ j, A j ∨ C j → w.heap.size + 3 ≤ j := fun j hj => by have := hAC j hj; simp at this; omega
    have hA1 : ∀ j, A j → j < w1.heap.size := fun j hj => hO.lt hj
    obtain ⟨pp, hpp⟩ : ∃ pp, pp = w1.heap.size := ⟨_, rfl⟩
    obtain ⟨pg, hpg⟩ : ∃ pg, pg = w.heap.size := ⟨_, rfl⟩
    obtain ⟨pf, hpf⟩ : ∃ pf, pf = w.heap.size + 1 := ⟨_, rfl⟩
    obtain ⟨pt, hpt⟩ : ∃ pt, pt = w.heap.size + 1 + 1 := ⟨_, rfl⟩
    rw [← hpg] at k0 k1
    rw [← hpf] at k2
    rw [← hpt] at k3
    have zg := cell_lt k0
    have zf := cell_lt k2
    have zt := cell_lt k3
    simp only at zg zf zt
    simp only [← hpt]
    simp only [← hpf]
    simp only [← hpg]
    have hpd := hide (show pg = w.heap.size ∧ pf = w.heap.size + 1 ∧ pt = w.heap.size + 1 + 1 ∧ pp = w1.heap.size from ⟨hpg, hpf, hpt, hpp⟩)
    clear hpg hpf hpt
    replace hO := hide hO
    replace hA0 := hide hA0
    replace hA1 := hide hA1
    replace hCl1 := hide hCl1
    clear hb1 hAC hNew
    have hbx : ∀ w', Below w1.heap.size w1 w' → Below w.heap.size w w' := fun w' h => hb2.out.trans (h.mono hb2.out.size)
    replace hbx := hide hbx
    go_wp2_with fail
    refine Calls.mono (hLk.out (w1.heap.size + 1) _ (by exact hbx.out _ (by repeat (first | with_reducible exact Below.refl _ _ | with_reducible assumption | with_reducible refine up_drewN ?_ | with_reducible refine up_drew ?_ | (with_reducible refine up_alloc ?_ ?_; rotate_left; (first | omega | (simp <;> omega) | simp)) | (with_reducible refine up_set ?_ ?_; rotate_left; (first | omega | (simp <;> omega) | simp)) | (with_reducible refine Below.trans ?_ (Below.mono (by with_reducible assumption) ?_); rotate_left; (first | omega | (simp <;> omega) | simp))))) (by exact (row2 (by simp [go_sem]) (by simp [go_sem])).mono (by simp))) ?_
    rintro e w2 ⟨rfl, hb3⟩
    have kp := cu_below hb3 (p := ⟨w1.heap.size, 0, none⟩) (v := .pointer (some ⟨pb, 0, none⟩)) (by simp [go_sem]) (by simp; omega)
    have k0 := cu_below hb3 (cu_alloc (cu_alloc k0)) (by simp; omega)
    have k1 := cu_below hb3 (cu_alloc (cu_alloc k1)) (by simp; omega)
    have k2 := cu_below hb3 (cu_alloc (cu_alloc k2)) (by simp; omega)
    have k3 := cu_below hb3 (cu_alloc (cu_alloc k3)) (by simp; omega)
    have b13 : Below w1.heap.size w1 w2 := ((by repeat (first | with_reducible exact Below.refl _ _ | with_reducible assumption | with_reducible refine up_drewN ?_ | with_reducible refine up_drew ?_ | (with_reducible refine up_alloc ?_ ?_; rotate_left; (first | omega | (simp <;> omega) | simp)) | (with_reducible refine up_set ?_ ?_; rotate_left; (first | omega | (simp <;> omega) | simp)) | (with_reducible refine Below.trans ?_ (Below.mono (by with_reducible assumption) ?_); rotate_left; (first | omega | (simp <;> omega) | simp)))) : Below w1.heap.size w1 _).trans (hb3.mono (by simp; omega))
    have hO2 := hide (hO.out.stays b13)
    have hb4 := hide (hb2.out.trans (b13.mono hb2.out.size))
    rw [← hpp] at kp
    have z2 : pp < w2.heap.size := cell_lt kp
    simp only [← hpp]
    replace hpp := hide hpp
    clear hb3 b13 hO hb2 hLk hbx
    go_wp2_with fail
    refine (lpl_work hO2.out).mono ?_
    rintro e w3 ⟨rfl, hw3⟩
    subst hw3
    go_upto_region 7 with fail
    have key := hide (show ∀ w', Below w3.heap.size w3 w' → (Below w3.heap.size w3 w' ∧ w'.cell? ⟨pg, 0, none⟩ = some (.int .i64 (n : Int)) ∧ w'.cell? ⟨pg, 1, none⟩ = some (.slice a0 m cap0) ∧ w3.heap.size ≤ w'.heap.size) from
      fun w' hb => ⟨hb, cu_below hb k0 (cell_lt k0), cu_below hb k1 (cell_lt k1), hb.size⟩)
    have hClw := hide (fun (w' : World) (hb : Below w3.heap.size w3 w') => hCl.out w' (hb4.out.trans (hb.mono hb4.out.size)))
    go_cut [12] (fun s3 wx => MidH (n : Int) m es0 w3 s3 wx)
    case first =>
      go_region_held3 (fun w' => Below w3.heap.size w3 w' ∧ w'.cell? ⟨pg, 0, none⟩ = some (.int .i64 (n : Int)) ∧ w'.cell? ⟨pg, 1, none⟩ = some (.slice a0 m cap0) ∧ w3.heap.size ≤ w'.heap.size)
        (first | exact key.out _ (below_drew _) | exact key.out _ (by assumption) | exact key.out _ (up_alloc_self (below_drew _)) | exact key.out _ (up_alloc_self (by assumption)) | exact key.out _ (life_set_up (And.left (by assumption)) (by simp <;> omega)) | exact key.out _ (life_set_up (life_set_up (And.left (by assumption)) (Nat.le_refl _)) (Nat.le_refl _)) | exact key.out _ (up_alloc_self (And.left (by assumption))))
        (first | (go_at_call 47; have hb4 := (‹_ ∧ _› : _ ∧ _).1; refine (hClw.out _ hb4).mono ?_; rintro e w4 ⟨av, c', rfl, own4, hb5⟩; have hb6 := below_step hb4 hb5; obtain ⟨hc4, hf4⟩ := bcell hb5))
      all_goals
        go_wp2_with fail
        go_meet
      · refine ⟨w4.heap.size, av, c', rfl, (by have h := hb5.size; simpa using h), by simp, by simp, own4.alloc _, ?_, by simp, (‹_ ∧ _› : _ ∧ _).1⟩
        intro h; have := own4.block_lt _ h; omega
      · have hlt4 : w3.heap.size < w4.heap.size := by have h := hb5.size; simp at h; omega
        have hne : (Value.slice av m c').ownBlock ≠ some w3.heap.size := by intro h; have := own4.block_lt _ h; simp at this; omega
        refine ⟨w3.heap.size, av, c', rfl, Nat.le_refl _, by simp [go_sem, hc4], by simp [go_sem, hc4], ((own4.base_le (by simp)).elsewhere hne _).elsewhere hne _, hne, by simpa using hlt4, (‹_ ∧ _› : _ ∧ _).1⟩
    case rest =>
      obtain ⟨ph, av, c', rfl, hph, e0, e1, eo, hne, hplt, hb5⟩ := hcut
      have hLI0 := hide (show LawI n s t m w w3 pp pg ph pf pt pb av c' C es0 es0 (fun _ => FAR) (upz (fun _ => FAR) s 0) q 0 A wc from by
        have hp := hpd.out
        have hz4 := hb4.out.size
        refine ⟨hO2.out.stays hb5, hm.out.symm, hm.out.symm, eo, cu_below hb5 kp z2, cu_below hb5 k0 (cell_lt k0), e0, e1, cu_below hb5 k2 (cell_lt k2), cu_below hb5 k3 (cell_lt k3), hb4.out.trans (hb5.mono hz4), fun j hj => ?_, fun j hj => ?_⟩
        · have h1 := hA0.out j hj
          have h2 : j < w1.heap.size := hj.elim (hA1.out j) (hCl1.out j)
          exact ⟨by omega, by omega, by omega, by omega, by omega, by omega, fun e => by have := (eo.block_lt j e).1; omega⟩
        · have h1 := (eo.block_lt j hj).1
          have zg := cell_lt k0
          have zf := cell_lt k2
          have zt := cell_lt k3
          simp only at zg zf zt
          exact ⟨by omega, by omega, by omega, fun e => hne (by rw [← e]; exact hj), by omega, by omega⟩)
      clear hO2 hA0 hA1 hCl1 hb4 hCl hClw key kp k0 k1 k2 k3 e0 e1 eo hne hb5
      obtain ⟨M, hM⟩ : ∃ M, M = x3.length := ⟨_, rfl⟩
      have hrow3 := hide (fun (i : Nat) (hi : i < M) => r3.out.p2 i (by rw [← hM]; exact hi))
      rw [← hM] at l3 n3
      simp only [← hM]
      replace hM := hide hM
      obtain ⟨wB, hwB⟩ : ∃ b : World, b = w3 := ⟨_, rfl⟩
      rw [← hwB] at hLI0
      replace hwB := hide hwB
      go_wp2
      go_loopw [58] (fun i wr => ∃ (k : Nat) (es : List Ed) (c l : Nat → Int) (q wk : Nat) (A : Nat → Prop), k ≤ M ∧ i = .int .i64 (k : Int) ∧ Hid (LawI n s t m w wB pp pg ph pf pt pb av c' C es es c l q wk A wr) ∧ q ≤ 1 + k * 76929) (fun i _ => M - (intOf i).toNat)
      case atStart => exact ⟨0, es0, _, _, q, 0, A, Nat.zero_le _, rfl, hLI0, by omega⟩
      case round =>
        clear hLI0
        obtain ⟨k, es, c, l, q, wk, A, hk, rfl, hLI, hq⟩ := hrel
        by_cases hlt : k < M
        · obtain ⟨bp, op, rfl, hbp, d0, d1⟩ := hrow3.out k hlt
          obtain ⟨x, hx⟩ : ∃ x, x = (x3[k]'(by rw [← hM.out]; exact hlt)).a := ⟨_, rfl⟩
          obtain ⟨y, hy⟩ : ∃ y, y = (x3[k]'(by rw [← hM.out]; exact hlt)).b := ⟨_, rfl⟩
          rw [← hx] at d0
          rw [← hy] at d1
          replace hx := hide hx
          replace hy := hide hy
          have hbr := hLI.out.b
          have d0 := cu_below hbr d0 hbp
          have d1 := cu_below hbr d1 hbp
          have zb := cell_lt d0
          simp only at zb
          have kp := hLI.out.kp
          have zp := cell_lt kp
          simp only at zp
          have ii : (0 : Int) ≤ (k : Int) ∧ (k : Int) < (M : Int) := by omega
          go_wp2_with fail
          obtain ⟨pe, hpe⟩ : ∃ pe, pe = wr.heap.size := ⟨_, rfl⟩
          obtain ⟨wa, hwa⟩ : ∃ wa, wa = wr.alloc (.cells #[.int .i64 x, .int .i64 y] 86) := ⟨_, rfl⟩
          have ba : Below wr.heap.size wr wa := by rw [hwa]; exact up_alloc (Below.refl _ _) (Nat.le_refl _)
          have x0 : wa.cell? ⟨pe, 0, none⟩ = some (.int .i64 x) := by rw [hwa, hpe]; simp [go_sem]
          have x1 : wa.cell? ⟨pe, 1, none⟩ = some (.int .i64 y) := by rw [hwa, hpe]; simp [go_sem]
          have hLa := hide (hLI.out.stays ba)
          have hape := hide (show ∀ j, A j → j ≠ pe from fun j hj e => by have := hLI.out.hO.lt hj; omega)
          simp only [← hwa, ← hpe]
          have hSet := hide (lawi_set x y hLa.out (by omega))
          replace hwa := hide hwa
          replace hpe := hide hpe
          obtain ⟨er, her⟩ : ∃ er, er = setErr m x y := ⟨_, rfl⟩
          rw [← her] at hSet
          have hcs : (x < 0 ∧ er = 1) ∨ (0 ≤ x ∧ (m : Int) ≤ x ∧ er = 1) ∨ (0 ≤ x ∧ x < (m : Int) ∧ y < 1 ∧ er = 4) ∨ (0 ≤ x ∧ x < (m : Int) ∧ 1 ≤ y ∧ 10000 < y ∧ er = 4) ∨ (0 ≤ x ∧ x < (m : Int) ∧ 1 ≤ y ∧ y ≤ 10000 ∧ er = 0) := by
            rw [her]
            unfold setErr
            by_cases h1 : x < 0 ∨ x ≥ (m : Int)
            · rw [if_pos h1]; omega
            · rw [if_neg h1]
              by_cases h2 : y < 1 ∨ y > 10000
              · rw [if_pos h2]; omega
              · rw [if_neg h2]; omega
          replace her := hide her
          refine hSet.out.mono ?_
          rintro e w5 ⟨rfl, es2, l2, q2, A2, hL5, hq2, hok, hbad, k5⟩
          have x0 := k5.cu x0 (fun ha => hape.out _ ha rfl)
          have x1 := k5.cu x1 (fun ha => hape.out _ ha rfl)
          have h1 := hL5.h1
          have zh := cell_lt h1
          have zx := cell_lt x0
          simp only at zh zx
          have hm9 : m ≤ 9223372036854775807 := hl
          obtain ⟨ge, hge⟩ : ∃ ge, 0 < m → av = some ⟨ge, 0, none⟩ := by
            by_cases hm0 : 0 < m
            · obtain ⟨ge, h, -, -⟩ := hL5.own.blockI' hm0
              exact ⟨ge, fun _ => h⟩
            · exact ⟨0, fun h => absurd h hm0⟩
          replace hge := hide hge
          replace hL5 := hide hL5
          replace hok := hide hok
          replace hbad := hide hbad
          have hq2b : q2 ≤ 2 + k * 76929 := by omega
          clear hSet hLa hape k5 ba hLI kp zp d0 d1 zb
          go_upto_region 16 with fail
          by_cases h3 : k % 3 = 0
          · rcases hcs with ⟨q0, rfl⟩ | ⟨q0, q1, rfl⟩ | ⟨q0, q1, q4, rfl⟩ | ⟨q0, q1, q4, q5, rfl⟩ | ⟨q0, q1, q4, q5, rfl⟩
            · have p0 : decide (x < 0) = true := by simpa using q0
              obtain rfl := hbad.out (by omega)
              clear hok hbad hge
              go_wp2_with fail
              refine (lawi_told hL5.out (by omega)).mono ?_
              rintro e w6 ⟨rfl, c6, l6, q6, wk6, A6, hL6, hq6, -, -⟩
              replace hL6 := hide hL6
              clear hL5
              go_wp2
              go_roundw
              case rel => exact ⟨k + 1, _, c6, l6, q6, wk6, A6, by omega, by go_num, hL6, by omega⟩
              case measure => simp [intOf]; omega
            · have p0 : (x < 0) = False := by simp; omega
              have p1 : ((m : Int) ≤ x) = True := by simp; omega
              obtain rfl := hbad.out (by omega)
              clear hok hbad hge
              go_wp2_with fail
              refine (lawi_told hL5.out (by omega)).mono ?_
              rintro e w6 ⟨rfl, c6, l6, q6, wk6, A6, hL6, hq6, -, -⟩
              replace hL6 := hide hL6
              clear hL5
              go_wp2
              go_roundw
              case rel => exact ⟨k + 1, _, c6, l6, q6, wk6, A6, by omega, by go_num, hL6, by omega⟩
              case measure => simp [intOf]; omega
            · have p0 : (x < 0) = False := by simp; omega
              have p1 : ((m : Int) ≤ x) = False := by simp; omega
              have p2 : (y < 1) = True := by simp; omega
              obtain rfl := hbad.out (by omega)
              clear hok hbad hge
              go_wp2_with fail
              refine (lawi_told hL5.out (by omega)).mono ?_
              rintro e w6 ⟨rfl, c6, l6, q6, wk6, A6, hL6, hq6, -, -⟩
              replace hL6 := hide hL6
              clear hL5
              go_wp2
              go_roundw
              case rel => exact ⟨k + 1, _, c6, l6, q6, wk6, A6, by omega, by go_num, hL6, by omega⟩
              case measure => simp [intOf]; omega
            · have p0 : (x < 0) = False := by simp; omega
              have p1 : ((m : Int) ≤ x) = False := by simp; omega
              have p2 : (y < 1) = False := by simp; omega
              have p3 : (10000 < y) = True := by simp; omega
              obtain rfl := hbad.out (by omega)
              clear hok hbad hge
              go_wp2_with fail
              refine (lawi_told hL5.out (by omega)).mono ?_
              rintro e w6 ⟨rfl, c6, l6, q6, wk6, A6, hL6, hq6, -, -⟩
              replace hL6 := hide hL6
              clear hL5
              go_wp2
              go_roundw
              case rel => exact ⟨k + 1, _, c6, l6, q6, wk6, A6, by omega, by go_num, hL6, by omega⟩
              case measure => simp [intOf]; omega
            · obtain ⟨i, rfl⟩ := Int.eq_ofNat_of_zero_le q0
              have p0 : ((i : Int) < 0) = False := by simp
              have p1 : ((m : Int) ≤ (i : Int)) = False := by simp; omega
              have p2 : (y < 1) = False := by simp; omega
              have p3 : (10000 < y) = False := by simp; omega
              obtain rfl := hok.out rfl
              have him : i < m := by omega
              obtain rfl := hge.out (by omega)
              have hxh : i < es.length := by rw [hL5.out.lenh]; exact him
              obtain ⟨-, -, k2⟩ := hL5.out.own.getE i hxh
              have fe := hL5.out.own.free (i * 3 + 2)
              have ix : (0 : Int) ≤ (i : Int) ∧ (i : Int) < (m : Int) := by omega
              obtain ⟨cc0, hcc0⟩ : ∃ cc0, cc0 = es[i].c := ⟨_, rfl⟩
              rw [← hcc0] at k2
              replace hcc0 := hide hcc0
              have hL5 := hide (hL5.out.store (x := i) (y := y) him)
              simp only [Int.toNat_natCast] at hL5
              clear hok hbad hge
              go_wp2_with fail
              refine (lawi_told hL5.out (by omega)).mono ?_
              rintro e w6 ⟨rfl, c6, l6, q6, wk6, A6, hL6, hq6, -, -⟩
              replace hL6 := hide hL6
              clear hL5
              go_wp2
              go_roundw
              case rel => exact ⟨k + 1, _, c6, l6, q6, wk6, A6, by omega, by go_num, hL6, by omega⟩
              case measure => simp [intOf]; omega
          · rcases hcs with ⟨q0, rfl⟩ | ⟨q0, q1, rfl⟩ | ⟨q0, q1, q4, rfl⟩ | ⟨q0, q1, q4, q5, rfl⟩ | ⟨q0, q1, q4, q5, rfl⟩
            · have p0 : decide (x < 0) = true := by simpa using q0
              obtain rfl := hbad.out (by omega)
              clear hok hbad hge
              go_wp2
              go_roundw
              case rel => exact ⟨k + 1, _, c, l2, q2, wk, A2, by omega, by go_num, hL5, by omega⟩
              case measure => simp [intOf]; omega
            · have p0 : (x < 0) = False := by simp; omega
              have p1 : ((m : Int) ≤ x) = True := by simp; omega
              obtain rfl := hbad.out (by omega)
              clear hok hbad hge
              go_wp2
              go_roundw
              case rel => exact ⟨k + 1, _, c, l2, q2, wk, A2, by omega, by go_num, hL5, by omega⟩
              case measure => simp [intOf]; omega
            · have p0 : (x < 0) = False := by simp; omega
              have p1 : ((m : Int) ≤ x) = False := by simp; omega
              have p2 : (y < 1) = True := by simp; omega
              obtain rfl := hbad.out (by omega)
              clear hok hbad hge
              go_wp2
              go_roundw
              case rel => exact ⟨k + 1, _, c, l2, q2, wk, A2, by omega, by go_num, hL5, by omega⟩
              case measure => simp [intOf]; omega
            · have p0 : (x < 0) = False := by simp; omega
              have p1 : ((m : Int) ≤ x) = False := by simp; omega
              have p2 : (y < 1) = False := by simp; omega
              have p3 : (10000 < y) = True := by simp; omega
              obtain rfl := hbad.out (by omega)
              clear hok hbad hge
              go_wp2
              go_roundw
              case rel => exact ⟨k + 1, _, c, l2, q2, wk, A2, by omega, by go_num, hL5, by omega⟩
              case measure => simp [intOf]; omega
            · obtain ⟨i, rfl⟩ := Int.eq_ofNat_of_zero_le q0
              have p0 : ((i : Int) < 0) = False := by simp
              have p1 : ((m : Int) ≤ (i : Int)) = False := by simp; omega
              have p2 : (y < 1) = False := by simp; omega
              have p3 : (10000 < y) = False := by simp; omega
              obtain rfl := hok.out rfl
              have him : i < m := by omega
              obtain rfl := hge.out (by omega)
              have hxh : i < es.length := by rw [hL5.out.lenh]; exact him
              obtain ⟨-, -, k2⟩ := hL5.out.own.getE i hxh
              have fe := hL5.out.own.free (i * 3 + 2)
              have ix : (0 : Int) ≤ (i : Int) ∧ (i : Int) < (m : Int) := by omega
              obtain ⟨cc0, hcc0⟩ : ∃ cc0, cc0 = es[i].c := ⟨_, rfl⟩
              rw [← hcc0] at k2
              replace hcc0 := hide hcc0
              have hL5 := hide (hL5.out.store (x := i) (y := y) him)
              simp only [Int.toNat_natCast] at hL5
              clear hok hbad hge
              go_wp2
              go_roundw
              case rel => exact ⟨k + 1, _, c, l2, q2, wk, A2, by omega, by go_num, hL5, by omega⟩
              case measure => simp [intOf]; omega
        · have hqb : q ≤ 50000000000 := by omega
          have kp := hLI.out.kp
          have zp := cell_lt kp
          simp only at zp
          have hTd := hide (lawi_told hLI.out (by omega))
          clear hLI hrow3 hpd
          go_wp2_with fail
          refine hTd.out.mono ?_
          rintro e w6 ⟨rfl, c6, l6, q6, wk6, A6, hL6, hq6, hX6, -⟩
          have hTd2 := hide (lawi_told hL6 (by omega))
          replace hX6 := hide hX6
          clear hTd hL6
          go_wp2_with fail
          refine hTd2.out.mono ?_
          rintro e w7 ⟨rfl, c7, l7, q7, wk7, A7, hL7, -, -, hz⟩
          obtain rfl := hz hX6.out
          have kp := hL7.kp
          have zp := cell_lt kp
          simp only at zp
          have hb := hide hL7.b
          have hWk := hide (lpl_work hL7.hO)
          clear hL7 hz hTd2 hX6
          go_wp2_with fail
          refine hWk.out.mono ?_
          rintro e w8 ⟨rfl, hw⟩
          subst hw
          go_wp2
          go_ret
          exact ⟨rfl, hb.out⟩
  · have hNb := hide (fun (w' : World) (hb : Below w.heap.size w w') => lnew_bad x0 a0 cap0 es0 x1 x2 w' w.heap.size hb.size (r0.below hb (Nat.le_refl _)) hl h0)
    obtain ⟨er, her⟩ : ∃ er, er = lookErr x0 es0 [x1, x2] := ⟨_, rfl⟩
    rw [← her] at hNb hLk h0
    have q0 : (er != 0) = true := by simpa using h0
    have q1 : (er == er) = true := by simp
    replace her := hide her
    clear h0 be0 b0 b1 b2 r0 b3 r3
    go_enter Try.func8, Try.ntmps8
    go_wp2_with fail
    refine (hNb.out _ (by exact (by repeat (first | with_reducible exact Below.refl _ _ | with_reducible assumption | with_reducible refine up_drewN ?_ | with_reducible refine up_drew ?_ | (with_reducible refine up_alloc ?_ ?_; rotate_left; (first | omega | (simp <;> omega) | simp)) | (with_reducible refine up_set ?_ ?_; rotate_left; (first | omega | (simp <;> omega) | simp)) | (with_reducible refine Below.trans ?_ (Below.mono (by with_reducible assumption) ?_); rotate_left; (first | omega | (simp <;> omega) | simp)))))).mono ?_
    rintro e w1 ⟨rfl, hb1⟩
    have k0 := cu_below hb1 (p := ⟨w.heap.size, 0, none⟩) (v := .int .i64 x0) (by simp [go_sem]) (by simp; omega)
    have k1 := cu_below hb1 (p := ⟨w.heap.size, 1, none⟩) (v := .slice a0 es0.length cap0) (by simp [go_sem]) (by simp; omega)
    have k2 := cu_below hb1 (p := ⟨w.heap.size + 1, 0, none⟩) (v := .int .i64 x1) (by simp [go_sem]) (by simp)
    have k3 := cu_below hb1 (p := ⟨w.heap.size + 1 + 1, 0, none⟩) (v := .int .i64 x2) (by simp [go_sem]) (by simp)
    have hb2 := hide (((by repeat (first | with_reducible exact Below.refl _ _ | with_reducible assumption | with_reducible refine up_drewN ?_ | with_reducible refine up_drew ?_ | (with_reducible refine up_alloc ?_ ?_; rotate_left; (first | omega | (simp <;> omega) | simp)) | (with_reducible refine up_set ?_ ?_; rotate_left; (first | omega | (simp <;> omega) | simp)) | (with_reducible refine Below.trans ?_ (Below.mono (by with_reducible assumption) ?_); rotate_left; (first | omega | (simp <;> omega) | simp)))) : Below w.heap.size w _).trans (hb1.mono (by simp; omega)))
    obtain ⟨pg, hpg⟩ : ∃ pg, pg = w.heap.size := ⟨_, rfl⟩
    obtain ⟨pf, hpf⟩ : ∃ pf, pf = w.heap.size + 1 := ⟨_, rfl⟩
    obtain ⟨pt, hpt⟩ : ∃ pt, pt = w.heap.size + 1 + 1 := ⟨_, rfl⟩
    rw [← hpg] at k0 k1
    rw [← hpf] at k2
    rw [← hpt] at k3
    have zg := cell_lt k0
    have zf := cell_lt k2
    have zt := cell_lt k3
    simp only at zg zf zt
    simp only [← hpt]
    simp only [← hpf]
    simp only [← hpg]
    have hbx := hide (show ∀ w', Below w1.heap.size w1 w' → Below w.heap.size w w' from fun w' h => hb2.out.trans (h.mono hb2.out.size))
    clear hpg hpf hpt hb1 hNb
    go_wp2_with fail
    refine Calls.mono (hLk.out (w1.heap.size + 1) _ (by exact hbx.out _ (by repeat (first | with_reducible exact Below.refl _ _ | with_reducible assumption | with_reducible refine up_drewN ?_ | with_reducible refine up_drew ?_ | (with_reducible refine up_alloc ?_ ?_; rotate_left; (first | omega | (simp <;> omega) | simp)) | (with_reducible refine up_set ?_ ?_; rotate_left; (first | omega | (simp <;> omega) | simp)) | (with_reducible refine Below.trans ?_ (Below.mono (by with_reducible assumption) ?_); rotate_left; (first | omega | (simp <;> omega) | simp))))) (by exact (row2 (by simp [go_sem]) (by simp [go_sem])).mono (by simp))) ?_
    rintro e w2 ⟨rfl, hb3⟩
    have kp := cu_below hb3 (p := ⟨w1.heap.size, 0, none⟩) (v := .pointer none) (by simp [go_sem]) (by simp; omega)
    have hb4 := hide (hbx.out _ (((by repeat (first | with_reducible exact Below.refl _ _ | with_reducible assumption | with_reducible refine up_drewN ?_ | with_reducible refine up_drew ?_ | (with_reducible refine up_alloc ?_ ?_; rotate_left; (first | omega | (simp <;> omega) | simp)) | (with_reducible refine up_set ?_ ?_; rotate_left; (first | omega | (simp <;> omega) | simp)) | (with_reducible refine Below.trans ?_ (Below.mono (by with_reducible assumption) ?_); rotate_left; (first | omega | (simp <;> omega) | simp)))) : Below w1.heap.size w1 _).trans (hb3.mono (by simp; omega))))
    have zp := cell_lt kp
    simp only at zp
    clear hb3 hLk hbx hb2
    go_wp2
    go_ret
    exact ⟨rfl, hb4.out⟩
end Go.Proofs.Ytcehdpeeaogpiaa

/-! Proved here: felllaw.LifePlans returns true where what is read is of bulk at most 1048576. -/
namespace Go.Proofs.Ytcehdpeeaogpiaa
open Go.ChangeShapes Go.WideShapes Go.ChangeAt Go.RowKit
set_option linter.unusedSimpArgs false
set_option linter.unusedVariables false

set_option maxRecDepth 100000 in
theorem contract_LifePlans (H : Type) (enc : TypeId × Value → H) (W : World) (base : Nat) (args : Array Value) (ds gs : List (DataW H)) (before : List MemPlace)
    (hval0 : ∀ (j : Nat) t v, Try.f8.params[j]? = some t → args[j]? = some v → Value.okWide Try.prog W .any base t v)
    (hW : DataW.Whole enc Try.prog Try.f8.params.toList Rows.lifePlansSpec.vars false W args.toList ds gs before) (hk : Rows.uptoSmall H (ds ++ gs) = true) :
    Calls Try.prog 8 args W fun e W' => ∃ v, e = .returned v ∧ Rows.lifePlansSpec.post enc Try.prog Try.f8 false true false false W args v W' := by
  have hval : ∀ (j : Nat) t v, Try.f8.params[j]? = some t → args[j]? = some v → Value.okWide Try.prog W .any base t v := hval0
  have hW' := hW
  obtain ⟨p, q, hA0, hV, rfl, hfz, hnd⟩ := hW
  have hA : DataW.TrodAll enc Try.prog W 0 (fun _ => true) true Try.f8.params.toList args.toList ds p := hA0
  rw [Try.params8] at hA hval
  obtain ⟨v0, vs0, d0, ds0, p0, q0, hargs, rfl, rfl, h0, tr0⟩ := trodAll_cons hA
  obtain ⟨v1, vs1, d1, ds1, p1, q1, rfl, rfl, rfl, h1, tr1⟩ := trodAll_cons tr0
  obtain ⟨v2, vs2, d2, ds2, p2, q2, rfl, rfl, rfl, h2, tr2⟩ := trodAll_cons tr1
  obtain ⟨v3, vs3, d3, ds3, p3, q3, rfl, rfl, rfl, h3, tr3⟩ := trodAll_cons tr2
  obtain ⟨rfl, rfl, rfl⟩ := trodAll_nil tr3
  obtain rfl : args = #[v0, v1, v2, v3] := by cases args; simp_all
  obtain ⟨rfl, rfl⟩ := trodVars_none hV
  simp only [List.append_nil] at hk
  have hbk : Rows.uptoBulkAll [d0, d1, d2, d3] ≤ 1048576 := of_decide_eq_true hk
  simp only [Rows.uptoBulkAll] at hbk
  have k0 := h0
  have lt0 : ∀ x ∈ p0, x.block < W.heap.size := by obtain ⟨m, hm⟩ := k0; exact DataW.trod_lt m _ _ _ hm
  have k1 := h1
  have lt1 : ∀ x ∈ p1, x.block < W.heap.size := by obtain ⟨m, hm⟩ := k1; exact DataW.trod_lt m _ _ _ hm
  have k2 := h2
  have lt2 : ∀ x ∈ p2, x.block < W.heap.size := by obtain ⟨m, hm⟩ := k2; exact DataW.trod_lt m _ _ _ hm
  have k3 := h3
  have lt3 : ∀ x ∈ p3, x.block < W.heap.size := by obtain ⟨m, hm⟩ := k3; exact DataW.trod_lt m _ _ _ hm
  obtain ⟨x0, a0, cap0, es0, rfl, b0, l0, m0, r0, be0⟩ := openT_net (P := Try.prog) Try.underlying24 (by kernel_rfl) (by kernel_rfl) Try.underlying3 Try.underlying22 (by kernel_rfl) Try.underlying34 (by kernel_rfl) Try.underlying3 Try.underlying3 Try.underlying3 (hval 0 24 v0 rfl rfl) h0
  obtain ⟨x1, rfl, b1⟩ := openT_int Try.underlying3 (hval 1 3 v1 rfl rfl) h1
  obtain ⟨x2, rfl, b2⟩ := openT_int Try.underlying3 (hval 2 3 v2 rfl rfl) h2
  obtain ⟨a3, cap3, x3, rfl, l3, m3, r3, b3⟩ := openT_p2s Try.underlying72 (by kernel_rfl) Try.underlying86 (by kernel_rfl) Try.underlying3 Try.underlying3 (hval 3 72 v3 rfl rfl) h3
  have n0 : es0.length ≤ 1048576 := Nat.le_trans (net_bulk (P := Try.prog) Try.underlying24 (by kernel_rfl) (by kernel_rfl) Try.underlying22 (hval 0 24 _ rfl rfl) k0) (by omega)
  have n3 : x3.length ≤ 524288 := by obtain ⟨_, hm⟩ := k3; have hq : 2 * x3.length ≤ Rows.uptoBulk d3 := pairs_bulk (P := Try.prog) Try.underlying72 Try.underlying86 (by simpa [Value.cells] using hm); omega
  clear hA0 hval0
  refine (walk_LifePlans x0 a0 cap0 es0 x1 x2 a3 cap3 x3 W b0 l0 m0 r0 be0 b1 b2 l3 m3 r3 b3 n0 n3).mono fun e W' ⟨he, bel⟩ => ?_
  subst he
  exact ⟨_, rfl, _, _, _, [], _, [], hW', trodAll_mk1 (shut_bool Try.underlying4 _), (trodAll_cons_mk (Below.trod laidOut (by kernel_rfl) (of_decide_eq_true (by kernel_rfl)) k0 bel lt0) (trodAll_cons_mk (Below.trod laidOut (by kernel_rfl) (of_decide_eq_true (by kernel_rfl)) k1 bel lt1) (trodAll_cons_mk (Below.trod laidOut (by kernel_rfl) (of_decide_eq_true (by kernel_rfl)) k2 bel lt2) (trodAll_cons_mk (Below.trod laidOut (by kernel_rfl) (of_decide_eq_true (by kernel_rfl)) k3 bel lt3) trodAll_mk0)))), rfl, bel.frame _, fun h => by cases h⟩

set_option maxRecDepth 100000 in
theorem lifted_LifePlans (os : Os) (started : os.Started) (H : Type) (enc : TypeId × Value → H) (F : Stop.Interp) :
    ReturnsInHanded {} Try.checked os 8 .any ((Rows.OpenSpec.upto Rows.lifePlansSpec).pre6 enc Try.prog Try.f8 Rows.lifePlansUptoRow.domain false) (((Rows.OpenSpec.upto Rows.lifePlansSpec).at F).post enc Try.prog Try.f8 false true false false) := by
  refine returnsInHanded_of_cond (C := Try.checked) (s := Rows.OpenSpec.upto Rows.lifePlansSpec) (k := Rows.uptoSmall) rfl own started (by kernel_rfl) Try.func8
    (OpenSpec.witness (enc := enc) (C := Try.checked) (s := Rows.OpenSpec.upto Rows.lifePlansSpec) (k := Rows.uptoSmall) rfl false ⟨#[], #[.agg #[.int .i64 0, .slice none 0 0], .int .i64 0, .int .i64 0, .slice none 0 0], []⟩ 8 (by kernel_rfl) (by kernel_rfl) (by kernel_rfl)
      (x := ([.agg [.lit (.int .i64 0), .nil], .lit (.int .i64 0), .lit (.int .i64 0), .nil], [], [])) (by kernel_rfl) rfl (by kernel_rfl)) ?_
  intro W base args ds gs before hval hW _ hk _
  exact contract_LifePlans H enc W base args ds gs before hval hW hk

/-- The given statement. -/
theorem proved_LifePlansUpto : Rows.LifePlansUptoSaid :=
  OpenClaim.holds_of_cond 8 Try.f8 rfl rfl rfl rfl rfl rfl rfl ⟨rfl, rfl, rfl, rfl, rfl⟩ rfl rfl rfl rfl rfl (by kernel_rfl) Try.func8 (by kernel_rfl)
    (of_decide_eq_true (by kernel_rfl)) (by unfold Func.isWrapper; first | (rw [if_pos (by decide +kernel)]; kernel_rfl) | (rw [if_neg (by decide +kernel)]; exact ⟨rfl, rfl⟩))
    (fun os started H enc _ F => lifted_LifePlans os started H enc F)
#print axioms proved_LifePlansUpto

end Go.Proofs.Ytcehdpeeaogpiaa
