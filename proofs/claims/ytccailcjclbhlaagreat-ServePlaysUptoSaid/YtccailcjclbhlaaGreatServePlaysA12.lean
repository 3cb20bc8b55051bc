/-
  A part of the proof of ServePlays: AMD
-/
import Derived.Test.YtccailcjclbhlaaGreatServePlaysA11
/-! Several texts in one: -/
/-! The document's search by rounds: what settle does. Conditions: the object reads as RXf says, the constants as AC says. -/
namespace Go.Proofs.YtccailcjclbhlaaGreat
open Go.RowKit
set_option linter.unusedSimpArgs false
set_option linter.unusedVariables false
set_option linter.unusedSectionVars false
section
variable [AFr]
variable {n rb mb pb nm hc m wk el ec t rc : Nat} {ha aw ae ar : Option Addr} {fr tg : Int} {sv : Nat → Value} {sl : Nat → List Nat} {ros : List RV} {h : Nat → Int} {ws : List P2} {es : List Ed} {s : AS} {w1 w : World}
theorem rlast_out {ev hv wv : Value} (hX : RXf n rb mb pb nm ev hv wv fr tg sv sl (.slice ar t rc) ros s w1 w) (ht : t = s.told.length) : ∃ pa pm pc kc, (lastWay s).1.length = pm ∧ (lastWay s).2 = kc ∧ Own encI 1 3 w w1.heap.size (.slice pa pm pc) (lastWay s).1 ∧ (∀ j, (Value.slice pa pm pc).ownBlock = some j → (Value.slice ar t rc).ownBlock ≠ some j ∧ (∀ i, i < 3 → (sv i).ownBlock ≠ some j) ∧ ¬ AFr.F j) ∧
    ((t = 0 ∧ pa = none ∧ pm = 0 ∧ pc = 0 ∧ kc = 1099511627776) ∨ ∃ t' g, t = t' + 1 ∧ ar = some ⟨g, 0, none⟩ ∧ g < w.heap.size ∧ w.cell? ⟨g, t' * 5 + 2, none⟩ = some (.slice pa pm pc) ∧ w.cell? ⟨g, t' * 5 + 3, none⟩ = some (.int .i64 kc)) := by
  rcases t with _ | t'
  · have h0 : s.told = [] := List.eq_nil_of_length_eq_zero ht.symm
    have e : lastWay s = ([], FAR) := by unfold lastWay; rw [h0]; rfl
    rw [e]
    exact ⟨none, 0, 0, _, rfl, rfl, Own.nil _ _, fun j hj => by simp [Value.ownBlock] at hj, .inl ⟨rfl, rfl, rfl, rfl, rfl⟩⟩
  · obtain ⟨r, h1, h2, h3, h4, h5, h6, h7⟩ := hX.told.2 t' (by omega)
    have hl : s.told.getLast? = some (s.told[t']'(by omega)) := by
      rw [List.getLast?_eq_getElem?, show s.told.length - 1 = t' by omega]
      exact List.getElem?_eq_getElem (by omega)
    have e : lastWay s = ((s.told[t']'(by omega)).path, (s.told[t']'(by omega)).cost) := by unfold lastWay; rw [hl]
    rw [e]
    have hrl : t' < ros.length := (List.getElem?_eq_some_iff.1 h1).1
    have hre : ros[t'] = r := (List.getElem?_eq_some_iff.1 h1).2
    refine ⟨r.pa, r.pm, r.pc, r.rc, h6.symm, h4.symm, h7, fun j hj => ?_, .inr ?_⟩
    · have := hX.apP j ⟨r, List.mem_of_getElem? h1, hj⟩
      exact ⟨this.1, this.2, fun hF => (hX.nf.2 j hF).2.2 (.inr (.inr (.inr ⟨r, List.mem_of_getElem? h1, hj⟩)))⟩
    · rcases hX.rnds.form with ⟨h8, h9⟩ | ⟨g, cap, h8, h9, h10, _⟩
      · rw [h9] at hrl; cases hrl
      · simp only [Value.slice.injEq] at h8
        obtain ⟨rfl, h11, rfl⟩ := h8
        have hget := fun j u hj => hX.rnds.get lenR t' hrl j u hj
        rw [hre] at hget
        exact ⟨t', g, rfl, rfl, h10, hget 2 _ rfl, hget 3 _ rfl⟩
/-- what each operation leaves, where the way up is made -/
def FR9 (rb pb n tg : Nat) (fr : Int) (ev : Value) (L : Nat) (pth : List Int) (cst : Int) (b0 : Nat) : Nat → Value → Nat → Nat → World → Prop
  | 0, v, _, _, _ => v = .pointer (some ⟨rb, 0, none⟩)
  | 1, v, _, _, _ => v = .pointer (some ⟨rb, 0, none⟩)
  | 2, v, _, _, _ => v = .pointer (some ⟨rb, 0, none⟩)
  | 3, v, _, _, _ => v = .agg #[.int .i64 (n : Int), ev]
  | 4, v, _, _, _ => v = .pointer (some ⟨rb, 0, none⟩)
  | 5, v, _, _, _ => v = .pointer (some ⟨rb, 0, none⟩)
  | 6, v, _, _, _ => v = .pointer (some ⟨rb, 7, none⟩)
  | 7, v, _, _, _ => v = .map (some pb)
  | 8, v, _, _, _ => v = .pointer (some ⟨rb, 0, none⟩)
  | 9, v, _, _, _ => v = .pointer (some ⟨rb, 0, none⟩)
  | 10, v, _, _, _ => v = .pointer (some ⟨rb, 2, none⟩)
  | 11, v, _, _, _ => v = .int .i64 fr
  | 12, v, _, _, _ => v = .pointer (some ⟨rb, 0, none⟩)
  | 13, v, _, _, _ => v = .pointer (some ⟨rb, 0, none⟩)
  | 14, v, _, _, _ => v = .pointer (some ⟨rb, 3, none⟩)
  | 15, v, _, _, _ => v = .int .i64 (tg : Int)
  | 16, v, _, _, w => ∃ a k, v = .slice a L k ∧ Own encI 1 3 w b0 (.slice a L k) pth
  | 17, v, _, _, w => ∃ a k, v = .agg #[.slice a L k, .int .i64 cst] ∧ Own encI 1 3 w b0 (.slice a L k) pth
  | 18, v, lo, hi, w => v = .pointer (some ⟨lo, 0, none⟩) ∧ b0 ≤ lo ∧ lo < hi ∧ w.cell? ⟨lo, 0, none⟩ = some (.slice none 0 0) ∧ w.cell? ⟨lo, 1, none⟩ = some (.int .i64 0) ∧ w.frozen? ⟨lo, 0, none⟩ = false ∧ w.frozen? ⟨lo, 1, none⟩ = false
  | _, _, _, _, _ => True
theorem fr9_stays {rb pb n tg : Nat} {fr : Int} {ev : Value} {L : Nat} {pth : List Int} {cst : Int} {b0 : Nat} : ∀ (i : Nat) (v : Value) (lo hi : Nat) (w w' : World), FR9 rb pb n tg fr ev L pth cst b0 i v lo hi w → Below w.heap.size w w' → FR9 rb pb n tg fr ev L pth cst b0 i v lo hi w'
  | 0, _, _, _, _, _, h, _ => h
  | 1, _, _, _, _, _, h, _ => h
  | 2, _, _, _, _, _, h, _ => h
  | 3, _, _, _, _, _, h, _ => h
  | 4, _, _, _, _, _, h, _ => h
  | 5, _, _, _, _, _, h, _ => h
  | 6, _, _, _, _, _, h, _ => h
  | 7, _, _, _, _, _, h, _ => h
  | 8, _, _, _, _, _, h, _ => h
  | 9, _, _, _, _, _, h, _ => h
  | 10, _, _, _, _, _, h, _ => h
  | 11, _, _, _, _, _, h, _ => h
  | 12, _, _, _, _, _, h, _ => h
  | 13, _, _, _, _, _, h, _ => h
  | 14, _, _, _, _, _, h, _ => h
  | 15, _, _, _, _, _, h, _ => h
  | 16, _, _, _, _, _, ⟨a, k, h1, h2⟩, hb => ⟨a, k, h1, h2.stays hb⟩
  | 17, _, _, _, _, _, ⟨a, k, h1, h2⟩, hb => ⟨a, k, h1, h2.stays hb⟩
  | 18, _, _, _, _, _, ⟨h1, h2, h3, h4, h5, h6, h7⟩, hb => ⟨h1, h2, h3, cu_below hb h4 (cell_lt h4), cu_below hb h5 (cell_lt h5), fu_below hb h6 (cell_lt h4), fu_below hb h7 (cell_lt h5)⟩
  | _ + 19, _, _, _, _, _, _, _ => trivial
/-- what settle leaves -/
def RSettleAns (n rb mb pb : Nat) (ev hv wv : Value) (fr : Int) (tg : Nat) (es : List Ed) (h : Nat → Int) (ws : List P2) (s : AS) (w1 : World) (e : Ending) (w' : World) : Prop :=
  e = .returned (.tuple #[]) ∧ ∃ s', ASettle ws es h n tg s s' ∧ RAS n rb mb pb ev hv wv fr (tg : Int) es s' w1 w'
set_option maxRecDepth 100000 in
set_option maxHeartbeats 4000000 in
theorem rsettle_any (tgN : Nat) (htg : tgN < n) (hA : RAS n rb mb pb (.slice ae el ec) (.slice ha n hc) (.slice aw m wk) fr (tgN : Int) es s w1 w) (hC : AC n rb mb pb mb pb hc m wk el ec ha aw ae h ws es w1) (hs : AInv n h s) (htl : s.told.length ≤ m) :
    Calls Tryz.prog 57 #[.pointer (some ⟨rb, 0, none⟩)] w (RSettleAns n rb mb pb (.slice ae el ec) (.slice ha n hc) (.slice aw m wk) fr tgN es h ws s w1) := by
  replace hC := hide hC
  replace hs := hide hs
  replace hA := hide hA
  have hm := hide hC.out.wl
  have hEd := hide hC.out.es
  have hn64 := hC.out.hn
  obtain ⟨bw, ow, rfl, hbw, -, -⟩ := hC.out.wr.p2 0 (by have := hm.out; omega)
  have hse0 := hide (fun s' (h : ASettle ws es h n tgN s s') => h)
  go_enter Tryz.func57, Tryz.ntmps57
  go_wp2
  go_loopg [] (m + 1) (fun gk wr => ∃ s1, Hid (RAS n rb mb pb (.slice ae el ec) (.slice ha n hc) (.slice (some ⟨bw, ow, none⟩) m wk) fr (tgN : Int) es s1 w1 wr) ∧ Hid (AInv n h s1) ∧ Hid (∀ s', ASettle ws es h n tgN s1 s' → ASettle ws es h n tgN s s') ∧ m + 1 ≤ gk + s1.told.length ∧ s1.told.length ≤ m)
  case atStart => exact ⟨s, hA, hs, hse0, by omega, htl⟩
  case round =>
    clear hA hs htl hse0
    obtain ⟨s1, hA1, hs1, hset, hgk, htm⟩ := hrel
    obtain ⟨nm, a0, k0, c0, a1, k1, c1, a2, k2, c2, sl, ar, t, rc, ros, hX, ht, hL, hk0, hk1, hk2, hnm⟩ := hA1.out
    have k12 := hX.c12
    have k5 := hX.c5
    have zs := cell_lt k5
    simp only at zs
    by_cases hov : t = m
    · have hq : ((t : Int) < (m : Int)) = False := by simp; omega
      have hfin := hide (hset.out s1 (ASettle.over s1 (by have := hm.out; omega)))
      have hAA := hide (fun k => (show RAS n rb mb pb (.slice ae el ec) (.slice ha n hc) (.slice (some ⟨bw, ow, none⟩) m wk) fr (tgN : Int) es s1 w1 (wr.drewN k) from ⟨nm, a0, k0, c0, a1, k1, c1, a2, k2, c2, sl, ar, t, rc, ros, hX.stays (up_drewN (Below.refl _ _)), ht, hL, hk0, hk1, hk2, hnm⟩))
      clear hX ht hL hk0 hk1 hk2 hA1 hset
      go_wp2
      go_quiet (fail)
      go_wp2
      go_end0
      exact ⟨rfl, s1, hfin.out, hAA.out nq⟩
    · have htm2 : t < m := by omega
      have hq : ((t : Int) < (m : Int)) = True := by simp; omega
      obtain ⟨r, hr⟩ : ∃ r, ws[t]? = some r := ⟨ws[t]'(by have := hm.out; omega), List.getElem?_eq_getElem _⟩
      replace hX := hide hX
      replace ht := hide ht
      replace hL := hide hL
      replace hk0 := hide hk0
      replace hk1 := hide hk1
      replace hk2 := hide hk2
      replace hr := hide hr
      have hdn := ainv_done hs1.out hn64.2 htm hm.out.2.2
      have hcb := hide (show ∀ u, s1.cost u < FAR → 0 ≤ s1.cost u ∧ s1.cost u ≤ 1000000000 from fun u hu => by rcases hs1.out.ok.cb u with h1 | h1 <;> omega)
      have hwn := hide (show ∀ u ∈ sl 0, u < n ∧ s1.cost u < FAR from fun u hu => by
        have h1 := (hL.out.iw u).1 hu
        exact ⟨h1.1, (hs1.out.ok.wt u h1.2).1⟩)
      have hwl := al_wlen hL.out
      clear hA1
      go_wp2
      go_quiet (fail)
      have hX2 := hide (hX.out.stays (up_drewN (n := nq) (Below.refl _ _)))
      clear hX k12 k5 hq zs
      generalize wr.drewN nq = w2 at hX2 ⊢
      obtain ⟨is, his⟩ : ∃ is, (costM n s1.cost (tgN : Int)).isSome = is := ⟨_, rfl⟩
      obtain ⟨gd, hgd⟩ : ∃ g, (costM n s1.cost (tgN : Int)).getD 0 = g := ⟨_, rfl⟩
      have hlk := fun k => ((hX2.out.cm.drewN k).lookOk 86 Tryz.underlying86 (x := (tgN : Int)) (by unfold Bd; omega))
      rw [his, hgd] at hlk
      have k6 := hX2.out.c6
      have k3 := hX2.out.c3
      have zs := cell_lt k6
      simp only at zs
      replace hgd := hide hgd
      have hisF := hide (show is = true ↔ s1.cost tgN < FAR from by
        rcases costM_look (cost := s1.cost) htg with ⟨q1, q2⟩ | ⟨q1, q2⟩
        · rw [← his, q1]; exact ⟨fun _ => q2, fun _ => rfl⟩
        · rw [← his, q1]; exact ⟨(fun e => by cases e), fun e => absurd e q2⟩)
      replace his := hide his
      go_wp2
      go_quiet (fail)
      have hX3 := hide (hX2.out.stays (up_drewN (n := nq) (Below.refl _ _)))
      clear hX2 hlk k6 k3 zs
      generalize w2.drewN nq = w3 at hX3 ⊢
      have hFi := hide (fun (w' : World) (hb : Below w3.heap.size w3 w') => rfirst_anyA k0 c0 a0 (sl 0) r hr.out (hX3.out.stays hb) hC.out hk0.out (by have := hk0.out; omega) (own_rowL ((hX3.out.stays hb).os 0 (by omega))) hwn.out hcb.out)
      have k8 := hX3.out.cs 0 (by omega)
      have k4 := hX3.out.c4
      have zs := cell_lt k4
      simp only at zs
      have key0 := hide (show ∀ w', Below w3.heap.size w3 w' → (fun w' => Below w3.heap.size w3 w' ∧ w'.cell? ⟨rb, 8, none⟩ = some (.slice a0 k0 c0) ∧ w'.cell? ⟨rb, 4, none⟩ = some (.slice ha n hc)) w' from fun w' hb => ⟨hb, cu_below hb k8 zs, cu_below hb k4 zs⟩)
      obtain ⟨vf, hvf⟩ : ∃ v, v = firstR (apl r h s1) (sl 0) := ⟨_, rfl⟩
      rw [← hvf] at hFi
      replace hvf := hide hvf
      clear k8 k4
      go_upto_region 2 with fail
      go_region_held3 (fun w' => Below w3.heap.size w3 w' ∧ w'.cell? ⟨rb, 8, none⟩ = some (.slice a0 k0 c0) ∧ w'.cell? ⟨rb, 4, none⟩ = some (.slice ha n hc))
        (first | exact key0.out _ (below_drew _) | exact key0.out _ (by assumption))
        ((go_at_call 52; have hb4 := (‹Below w3.heap.size w3 _ ∧ _› : _ ∧ _).1; refine (hFi.out _ hb4).mono ?_; rintro e w5 ⟨rfl, hb5⟩; have hb6 := below_step hb4 hb5))
      all_goals
        have hX5 := hide (hX3.out.stays (‹Below w3.heap.size w3 w5 ∧ _› : _ ∧ _).1)
        clear hX3 hFi key0 zs
        go_upto_region 3 with fail
        obtain ⟨w6, hw6⟩ : ∃ w6, w6 = w5 := ⟨_, rfl⟩
        simp only [← hw6] at hX5 ⊢
        obtain ⟨q, hqd⟩ : ∃ q : Bool, (q = true ↔ Left r h n tgN s1) := ⟨@decide (Left r h n tgN s1) (Classical.propDecidable _), by simp⟩
        replace hqd := hide hqd
        replace hw6 := hide hw6
        go_cut [61] (fun s61 wx => s61 = .bool q ∧ Hid (RXf n rb mb pb nm (.slice ae el ec) (.slice ha n hc) (.slice (some ⟨bw, ow, none⟩) m wk) fr (tgN : Int) (sv3 (.slice a0 k0 c0) (.slice a1 k1 c1) (.slice a2 k2 c2)) sl (.slice ar t rc) ros s1 w1 wx))
        case first =>
          have hdr := hide (fun k => hX5.out.stays ((up_drewN (n := k) (Below.refl w6.heap.size w6)) : Below w6.heap.size w6 (w6.drewN k)))
          by_cases hne : sl 0 = []
          · have e : vf = -1 := by rw [hvf.out, hne]; rfl
            subst e
            have hq0 : q = false := by
              have h1 := hqd.out
              cases q with
              | false => rfl
              | true => exact absurd (h1.1 rfl) (left_none (by have := hL.out; rw [hne] at this; exact al_none this))
            subst hq0
            clear hset hX5
            go_wp2
            (refine wp_region_quiet_hid (by kernel_rfl) (by kernel_rfl) (fun wq hst hni => ?_); (repeat (refine hst.out _ _ _ _ (fun K hK => ?_); go_simp; first | (refine hK.out _ ?_; clear hK K) | (apply Exists.intro; refine ⟨fun _ => ?_, hK.out _ ?_⟩; (fail); clear hK K))); refine hni.out _ _ ?_; clear hst hni wq; intro wqq hw'; obtain ⟨nq, hw''⟩ := hw'; subst hw'')
            go_wp2
            go_meet
            case rel => exact ⟨rfl, hide (hdr.out nq)⟩
          · obtain ⟨v, hv1, hv2, hnv⟩ := al_next hL.out (r := r) (hh := h) hne
            have e : vf = (v : Int) := hvf.out.trans hv1
            subst e
            have hlt := hide (left_top (tg := tgN) hnv)
            cases is with
            | false =>
              have hq1 : q = true := hqd.out.2 (hlt.out.2 (.inl (fun hc => by have := hisF.out.2 hc; cases this)))
              subst hq1
              clear hset hX5 hnv hv1
              go_wp2
              (refine wp_region_quiet_hid (by kernel_rfl) (by kernel_rfl) (fun wq hst hni => ?_); (repeat (refine hst.out _ _ _ _ (fun K hK => ?_); go_simp; first | (refine hK.out _ ?_; clear hK K) | (apply Exists.intro; refine ⟨fun _ => ?_, hK.out _ ?_⟩; (fail); clear hK K))); refine hni.out _ _ ?_; clear hst hni wq; intro wqq hw'; obtain ⟨nq, hw''⟩ := hw'; subst hw'')
              go_wp2
              go_meet
              case rel => exact ⟨rfl, hide (hdr.out nq)⟩
            | true =>
              have hcF := hisF.out.1 rfl
              have hvF := (hwn.out v hv2).2
              have hKv := hide (fun (w' : World) (hb : Below w6.heap.size w6 w') => rkey_any v r hr.out (hX5.out.stays hb) hC.out hnv.1.1 hvF (hcb.out v hvF).1 (hcb.out v hvF).2)
              have hKt := hide (fun (w' : World) (hb : Below w6.heap.size w6 w') => rkey_any tgN r hr.out (hX5.out.stays hb) hC.out htg hcF (hcb.out tgN hcF).1 (hcb.out tgN hcF).2)
              obtain ⟨kv, hkv⟩ : ∃ k, k = akey r h s1 v := ⟨_, rfl⟩
              obtain ⟨kt, hkt⟩ : ∃ k, k = akey r h s1 tgN := ⟨_, rfl⟩
              rw [← hkv] at hKv
              rw [← hkt] at hKt
              rw [← hkv, ← hkt] at hlt
              have hqq := hide (show decide (kv < kt) = q from by
                have h1 := hqd.out.trans hlt.out
                by_cases h2 : kv < kt
                · rw [h1.2 (.inr h2)]; simpa using h2
                · cases q with
                  | false => simpa using h2
                  | true =>
                    rcases h1.1 rfl with h3 | h3
                    · exact absurd hcF h3
                    · exact absurd h3 h2)
              have k3 := hX5.out.c3
              have zs := cell_lt k3
              simp only at zs
              have hdr2 := hide (fun (w' : World) (hb : Below w6.heap.size w6 w') => hX5.out.stays hb)
              have key0 := hide (show ∀ w', Below w6.heap.size w6 w' → (fun w' => Below w6.heap.size w6 w' ∧ w'.cell? ⟨rb, 3, none⟩ = some (.int .i64 (tgN : Int))) w' from fun w' hb => ⟨hb, cu_below hb k3 zs⟩)
              replace hkv := hide hkv
              replace hkt := hide hkt
              have hv0 : (0 : Int) ≤ (v : Int) := by omega
              clear hset hX5 hnv hv1 hcF hvF k3 zs hdr
              go_wp2
              refine wp_region_held_drew (S := (fun w' => Below w6.heap.size w6 w' ∧ w'.cell? ⟨rb, 3, none⟩ = some (.int .i64 (tgN : Int)))) (by kernel_rfl) ?_ (fun hHeld => ?_)
              · exact key0.out _ (below_drew _)
              (try dsimp only at hHeld)
              refine planH [0, 1, 2, 3, 4, 5, 6, 7, 9, 10, 11, 12, 13] ?_
              iterate 13
                refine PlanH.take (v := ?_) (List.getElem?_toArray.trans rfl) (by kernel_rfl) (fun _ _ _ h => h) (Or.inl ⟨by rfl, ?_⟩) hHeld ?_
                rotate_left
                · intro w hSw; (try dsimp only at hSw); go_simp; (try with_reducible rfl)
                try simp only [Act.put, List.setIfInBounds_toArray, List.set_cons_zero, List.set_cons_succ]
              refine wpAnyH_ready (rs := [8]) (by kernel_rfl) (by simp) (AllReadyH.cons (List.getElem?_toArray.trans rfl) (fun K hK => ?_) AllReadyH.nil)
              (go_simp; refine (hKv.out _ hHeld.1).mono ?_; rintro e w7 ⟨rfl, hb7⟩)
              have hHeld := key0.out _ (below_step hHeld.1 hb7)
              refine hK.out _ _ hHeld (fun _ => ?_)
              clear hK K; try simp only [Act.put, List.setIfInBounds_toArray, List.set_cons_zero, List.set_cons_succ]
              refine wpAnyH_ready (rs := [14]) (by kernel_rfl) (by simp) (AllReadyH.cons (List.getElem?_toArray.trans rfl) (fun K hK => ?_) AllReadyH.nil)
              (go_simp; refine (hKt.out _ hHeld.1).mono ?_; rintro e w8 ⟨rfl, hb8⟩)
              have hHeld := key0.out _ (below_step hHeld.1 hb8)
              refine hK.out _ _ hHeld (fun _ => ?_)
              clear hK K; try simp only [Act.put, List.setIfInBounds_toArray, List.set_cons_zero, List.set_cons_succ]
              refine planH [15, 16, 17] ?_
              iterate 3
                refine PlanH.take (v := ?_) (List.getElem?_toArray.trans rfl) (by kernel_rfl) (fun _ _ _ h => h) (Or.inl ⟨by rfl, ?_⟩) hHeld ?_
                rotate_left
                · intro w hSw; (try dsimp only at hSw); go_simp; (try with_reducible rfl)
                try simp only [Act.put, List.setIfInBounds_toArray, List.set_cons_zero, List.set_cons_succ]
              refine wpAnyH_done (by kernel_rfl) ?_ _
              have hX9 := hide (hdr2.out _ hHeld.1)
              clear hHeld
              go_wp2
              go_meet
              case rel => exact ⟨by rw [hqq.out], hX9⟩
        case rest =>
          clear hX5 hw6
          obtain ⟨rfl, hX6⟩ := hcut
          obtain ⟨w7, hw7⟩ : ∃ w7, w7 = wc := ⟨_, rfl⟩
          simp only [← hw7] at hX6 ⊢
          clear hw7
          cases q with
          | true =>
            have hfin := hide (hset.out s1 (ASettle.left s1 r (by rw [← ht.out]; exact hr.out) (hqd.out.1 rfl)))
            have hAA := hide (show RAS n rb mb pb (.slice ae el ec) (.slice ha n hc) (.slice (some ⟨bw, ow, none⟩) m wk) fr (tgN : Int) es s1 w1 w7 from ⟨nm, a0, k0, c0, a1, k1, c1, a2, k2, c2, sl, ar, t, rc, ros, hX6.out, ht.out, hL.out, hk0.out, hk1.out, hk2.out, hnm⟩)
            clear hX6 hset
            go_wp2
            ((try simp only [Exit.inBlock, Exit.then]); refine bodyPost_ret (results_none rfl _ _ _) rfl ?_)
            exact ⟨rfl, s1, hfin.out, hAA.out⟩
          | false =>
            have hnl := hide (show ¬ Left r h n tgN s1 from fun hc => by have := hqd.out.2 hc; cases this)
            obtain ⟨pa, pm, pc, kc, hpm, hkc, hpo, hpap, hpcell⟩ := rlast_out hX6.out ht.out
            have c12 := hX6.out.c12
            have zs := cell_lt c12
            simp only at zs
            replace hpo := hide hpo
            replace hpap := hide hpap
            have hlw : lastWay s1 = ((lastWay s1).1, kc) := by rw [← hkc]
            obtain ⟨lp, hlp⟩ : ∃ lp, lp = (lastWay s1).1 := ⟨_, rfl⟩
            rw [← hlp] at hlw hpm hpo
            replace hlw := hide hlw
            replace hlp := hide hlp
            clear hqd hvf hkc
            go_upto_if 69 with fail
            obtain ⟨w8, hw8⟩ : ∃ w8, w8 = w7.alloc (.cells #[.slice none 0 0, .int .i64 1099511627776] 58) := ⟨_, rfl⟩
            obtain ⟨b5, hb5⟩ : ∃ b5, b5 = w7.heap.size := ⟨_, rfl⟩
            have hb8 : Below w7.heap.size w7 w8 := by rw [hw8]; exact up_alloc (Below.refl _ _) (Nat.le_refl _)
            have m0 : w8.cell? ⟨b5, 0, none⟩ = some (.slice none 0 0) := by rw [hw8, hb5]; simp [go_sem]
            have m1 : w8.cell? ⟨b5, 1, none⟩ = some (.int .i64 1099511627776) := by rw [hw8, hb5]; simp [go_sem]
            have f0 : w8.frozen? ⟨b5, 0, none⟩ = false := by rw [hw8, hb5]; simp [go_sem]
            have f1 : w8.frozen? ⟨b5, 1, none⟩ = false := by rw [hw8, hb5]; simp [go_sem]
            have c12 := cu_below hb8 c12 zs
            have zb5 : w7.heap.size ≤ b5 := by omega
            have zr : rb < b5 := by omega
            simp only [← hw8, ← hb5]
            replace hb8 := hide hb8
            clear hw8
            replace hb5 := hide hb5
            go_cut [] (fun wx => wx.cell? ⟨b5, 0, none⟩ = some (.slice pa pm pc) ∧ wx.cell? ⟨b5, 1, none⟩ = some (.int .i64 kc) ∧ wx.frozen? ⟨b5, 0, none⟩ = false ∧ wx.frozen? ⟨b5, 1, none⟩ = false ∧ Hid (Below w7.heap.size w7 wx))
            case first =>
              rcases hpcell with ⟨h1, h2, h3, h4, h5⟩ | ⟨t', g, h1, h2, h3, h4, h5⟩
              · subst h1
                clear hX6 hset
                go_wp2
                go_meet
                case rel => exact ⟨by rw [h2, h3, h4]; exact m0, by rw [h5]; exact m1, f0, f1, hb8⟩
              · subst h2
                have h4 := cu_below hb8.out h4 h3
                have h5 := cu_below hb8.out h5 h3
                have hwr : IntKind.i64.wrap ((t : Int) - 1) = (t' : Int) := by rw [IntWalk.i64_in _ (by have := hm.out; omega)]; omega
                have it : (0 : Int) ≤ (t' : Int) ∧ (t' : Int) < (t : Int) := by omega
                have htp : (0 : Int) < (t : Int) := by omega
                have hne : g ≠ b5 := by have := hb5.out; omega
                have n0 : ((w8.setCell ⟨b5, 0, none⟩ (.slice pa pm pc)).setCell ⟨b5, 1, none⟩ (.int .i64 kc)).cell? ⟨b5, 0, none⟩ = some (.slice pa pm pc) := by simp [go_sem, m0, m1]
                have n1 : ((w8.setCell ⟨b5, 0, none⟩ (.slice pa pm pc)).setCell ⟨b5, 1, none⟩ (.int .i64 kc)).cell? ⟨b5, 1, none⟩ = some (.int .i64 kc) := by simp [go_sem, m0, m1]
                have hb9 := hide (show Below w7.heap.size w7 ((w8.setCell ⟨b5, 0, none⟩ (.slice pa pm pc)).setCell ⟨b5, 1, none⟩ (.int .i64 kc)) from (hb8.out.setCell zb5 _).setCell zb5 _)
                replace h1 := hide h1
                clear hX6 hset
                go_wp2
                go_meet
                case rel => exact ⟨n0, n1, fu_set (fu_set f0), fu_set (fu_set f1), hb9⟩
            case rest =>
              clear m0 m1 f0 f1 c12 hb8 hpcell
              obtain ⟨m0, m1, f0, f1, hb8⟩ := hcut
              obtain ⟨w9, hw9⟩ : ∃ w9, w9 = wc := ⟨_, rfl⟩
              simp only [← hw9] at m0 m1 f0 f1 hb8 ⊢
              clear hw9
              have zb9 : b5 < w9.heap.size := cell_lt m0
              go_upto_if 79 with fail
              go_cut [] (fun wx => ∃ (ap : Option Addr) (pn cp : Nat) (p : List Int × Int), wx.cell? ⟨b5, 0, none⟩ = some (.slice ap pn cp) ∧ wx.cell? ⟨b5, 1, none⟩ = some (.int .i64 p.2) ∧ Hid (pn = p.1.length) ∧ Hid (ABest n tgN es s1 p) ∧ Hid (Own encI 1 3 wx w1.heap.size (.slice ap pn cp) p.1) ∧ Hid (∀ j, (Value.slice ap pn cp).ownBlock = some j → (Value.slice ar t rc).ownBlock ≠ some j ∧ (∀ i, i < 3 → ((sv3 (Value.slice a0 k0 c0) (.slice a1 k1 c1) (.slice a2 k2 c2)) i).ownBlock ≠ some j) ∧ ¬ AFr.F j) ∧ Hid (Below w7.heap.size w7 wx))
              case first =>
                cases is with
                | false =>
                  have hab := hide (show ABest n tgN es s1 (lp, kc) from .inl ⟨(fun hc => by have := hisF.out.2 hc; cases this), hlw.out.symm⟩)
                  have hpo9 := hide (hpo.out.stays hb8.out)
                  clear hX6 hset
                  go_wp2
                  go_meet
                  case rel => exact ⟨pa, pm, pc, (lp, kc), m0, m1, hide hpm.symm, hab, hpo9, hpap, hb8⟩
                | true =>
                  have hcF := hisF.out.1 rfl
                  have hX9 := hide (hX6.out.stays hb8.out)
                  obtain ⟨l, hch, hll, hlm⟩ := away hs1.out.ok htg hcF
                  obtain ⟨cst, hcst⟩ : ∃ c, (wcost (n : Int) es (LP l.reverse)).1 = c := ⟨_, rfl⟩
                  obtain ⟨Lu, hLu⟩ : ∃ c, l.length = c := ⟨_, rfl⟩
                  have hup : upWay n es l = (LP l.reverse, cst) := by unfold upWay; rw [hcst]
                  have hA := (show ABest n tgN es s1 (if (upWay n es l).2 < kc then upWay n es l else (lp, kc)) from .inr ⟨hcF, l, hch, by rw [hlw.out]⟩)
                  rw [hup] at hA
                  simp only at hA
                  have hL1 : 1 ≤ Lu := by obtain ⟨tl, rfl⟩ := chain_head hch; rw [← hLu]; simp
                  have hpl2 : (LP l.reverse).length = Lu := by rw [lp_len, List.length_reverse, hLu]
                  have hBk := hide (fun (w' : World) (hb : Below w9.heap.size w9 w') => (show Calls Tryz.prog 80 #[.map (some pb), .int .i64 fr, .int .i64 (tgN : Int)] w' fun e w'' => ∃ a k, e = .returned (.slice a Lu k) ∧ Own encI 1 3 w'' w'.heap.size (.slice a Lu k) (LP l.reverse) ∧ Below w'.heap.size w' w'' by
                    have := rback_any n nm tgN pb fr s1.pred l w' (hX9.out.stays hb).pm hch hn64.2 hll hlm
                    rw [hLu] at this
                    exact this))
                  have hel2 : es.length ≤ 9223372036854775807 := by have := hEd.out.2.2; omega
                  have hLu2 : Lu ≤ 1000000 := by omega
                  have hWk := hide (fun (w' : World) (hb : Below w9.heap.size w9 w') (a : Option Addr) (k : Nat) (o : Own encI 1 3 w' w9.heap.size (.slice a Lu k) (LP l.reverse)) => (show Calls Tryz.prog 79 #[.agg #[.int .i64 (n : Int), .slice ae el ec], .slice a Lu k] w' fun e w'' => e = .returned (.agg #[.slice a Lu k, .int .i64 cst]) ∧ Below w'.heap.size w' w'' by
                    have hbg := (hX9.out.stays hb).big
                    have hkp := (hX9.out.stays hb).keep
                    have hrw := hC.out.er _ hkp
                    have hro := own_rowL o
                    have h1 := rwalked_any n Lu k ae a ec es (LP l.reverse) cst w' w1.heap.size hbg hrw hro hel2 hcst hpl2 hLu2
                    rw [hEd.out.2.2.1] at h1
                    exact h1))
                  clear hel2 hLu2
                  obtain ⟨pu, hpu⟩ : ∃ pu, pu = LP l.reverse := ⟨_, rfl⟩
                  rw [← hpu] at hA hpl2 hBk hWk
                  replace hpu := hide hpu
                  replace hcst := hide hcst
                  replace hLu := hide hLu
                  replace hA := hide hA
                  have c0' := hX9.out.c0
                  have c1' := hX9.out.c1
                  have c2' := hX9.out.c2
                  have c3' := hX9.out.c3
                  have c7' := hX9.out.c7
                  have zs9 := cell_lt c0'
                  simp only at zs9
                  have key1 := hide (show ∀ w', Below w9.heap.size w9 w' → (Below w9.heap.size w9 w' ∧ w'.cell? ⟨rb, 0, none⟩ = some (.int .i64 (n : Int)) ∧ w'.cell? ⟨rb, 1, none⟩ = some (.slice ae el ec) ∧ w'.cell? ⟨rb, 2, none⟩ = some (.int .i64 fr) ∧ w'.cell? ⟨rb, 3, none⟩ = some (.int .i64 (tgN : Int)) ∧ w'.cell? ⟨rb, 7, none⟩ = some (.map (some pb)) ∧ w9.heap.size ≤ w'.heap.size) from fun w' hb => ⟨hb, cu_below hb c0' zs9, cu_below hb c1' zs9, cu_below hb c2' zs9, cu_below hb c3' zs9, cu_below hb c7' zs9, hb.size⟩)
                  have hpapR := hide (show ∀ j, w9.heap.size ≤ j → (Value.slice ar t rc).ownBlock ≠ some j ∧ (∀ i, i < 3 → ((sv3 (Value.slice a0 k0 c0) (.slice a1 k1 c1) (.slice a2 k2 c2)) i).ownBlock ≠ some j) ∧ ¬ AFr.F j from fun j hj => ⟨fun e => by have := (hX9.out.rnds.block_lt j e).2; omega, fun i hi e => by have := ((hX9.out.os i hi).block_lt j e).2; omega, hX9.out.nf.noF hj⟩)
                  have hzw1 := hX9.out.big
                  clear hX6 hset hX9 hch hll hlm c0' c1' c2' c3' c7' hup
                  go_upto_region 9 with fail
                  refine wp_region_inv 19 (by kernel_rfl) [some 80, some 81, some 82, some 83, some 84, some 85, some 86, some 87, some 88, some 89, some 90, some 91, some 92, some 93, some 94, some 95, some 96, some 97, some 7] (FR9 rb pb n tgN fr (.slice ae el ec) Lu pu cst w9.heap.size) (fun w' => Below w9.heap.size w9 w' ∧ w'.cell? ⟨rb, 0, none⟩ = some (.int .i64 (n : Int)) ∧ w'.cell? ⟨rb, 1, none⟩ = some (.slice ae el ec) ∧ w'.cell? ⟨rb, 2, none⟩ = some (.int .i64 fr) ∧ w'.cell? ⟨rb, 3, none⟩ = some (.int .i64 (tgN : Int)) ∧ w'.cell? ⟨rb, 7, none⟩ = some (.map (some pb)) ∧ w9.heap.size ≤ w'.heap.size) (fun w w' => Below w.heap.size w w') (by kernel_rfl) (by kernel_rfl) (by kernel_rfl) (by kernel_rfl) (fr9_stays) (fun _ _ h => h.size) (key1.out _ (below_drew _)) ?steps ?hend
                  case steps =>
                    refine ⟨?_, ?_, ?_, ?_, ?_, ?_, ?_, ?_, ?_, ?_, ?_, ?_, ?_, ?_, ?_, ?_, ?_, ?_, ?_, trivial⟩
                    · intro X L H wI hS hd K hK
                      have hS0 := hide hS
                      (try dsimp only at hS)
                      simp only [putAll, Act.put, List.setIfInBounds_toArray, List.set_cons_zero, List.set_cons_succ]
                      go_simp
                      refine hK _ _ wI.heap.size wI.heap.size _ ?_ (Nat.le_refl _) (Nat.le_refl _) (Nat.le_refl _) (Below.refl _ _) hS0.out rfl
                      simp only [putAll, Act.put, List.setIfInBounds_toArray, List.set_cons_zero, List.set_cons_succ]
                    · intro X L H wI hS hd K hK
                      have h0 : X 0 = _ := hd 0 (by kernel_rfl)
                      have hS0 := hide hS
                      (try dsimp only at hS)
                      simp only [putAll, Act.put, List.setIfInBounds_toArray, List.set_cons_zero, List.set_cons_succ]
                      go_simp
                      refine hK _ _ wI.heap.size wI.heap.size _ ?_ (Nat.le_refl _) (Nat.le_refl _) (Nat.le_refl _) (Below.refl _ _) hS0.out rfl
                      simp only [putAll, Act.put, List.setIfInBounds_toArray, List.set_cons_zero, List.set_cons_succ, h0]
                    · intro X L H wI hS hd K hK
                      have h1 : X 1 = _ := hd 1 (by kernel_rfl)
                      have hS0 := hide hS
                      (try dsimp only at hS)
                      simp only [putAll, Act.put, List.setIfInBounds_toArray, List.set_cons_zero, List.set_cons_succ]
                      go_simp
                      refine hK _ _ wI.heap.size wI.heap.size _ ?_ (Nat.le_refl _) (Nat.le_refl _) (Nat.le_refl _) (Below.refl _ _) hS0.out rfl
                      simp only [putAll, Act.put, List.setIfInBounds_toArray, List.set_cons_zero, List.set_cons_succ, h1]
                    · intro X L H wI hS hd K hK
                      have h2 : X 2 = _ := hd 2 (by kernel_rfl)
                      have hS0 := hide hS
                      (try dsimp only at hS)
                      simp only [putAll, Act.put, List.setIfInBounds_toArray, List.set_cons_zero, List.set_cons_succ]
                      go_simp
                      refine hK _ _ wI.heap.size wI.heap.size _ ?_ (Nat.le_refl _) (Nat.le_refl _) (Nat.le_refl _) (Below.refl _ _) hS0.out rfl
                      simp only [putAll, Act.put, List.setIfInBounds_toArray, List.set_cons_zero, List.set_cons_succ, h2]
                    · intro X L H wI hS hd K hK
                      have hS0 := hide hS
                      (try dsimp only at hS)
                      simp only [putAll, Act.put, List.setIfInBounds_toArray, List.set_cons_zero, List.set_cons_succ]
                      go_simp
                      refine hK _ _ wI.heap.size wI.heap.size _ ?_ (Nat.le_refl _) (Nat.le_refl _) (Nat.le_refl _) (Below.refl _ _) hS0.out rfl
                      simp only [putAll, Act.put, List.setIfInBounds_toArray, List.set_cons_zero, List.set_cons_succ]
                    · intro X L H wI hS hd K hK
                      have h4 : X 4 = _ := hd 4 (by kernel_rfl)
                      have hS0 := hide hS
                      (try dsimp only at hS)
                      simp only [putAll, Act.put, List.setIfInBounds_toArray, List.set_cons_zero, List.set_cons_succ]
                      go_simp
                      refine hK _ _ wI.heap.size wI.heap.size _ ?_ (Nat.le_refl _) (Nat.le_refl _) (Nat.le_refl _) (Below.refl _ _) hS0.out rfl
                      simp only [putAll, Act.put, List.setIfInBounds_toArray, List.set_cons_zero, List.set_cons_succ, h4]
                    · intro X L H wI hS hd K hK
                      have h5 : X 5 = _ := hd 5 (by kernel_rfl)
                      have hS0 := hide hS
                      (try dsimp only at hS)
                      simp only [putAll, Act.put, List.setIfInBounds_toArray, List.set_cons_zero, List.set_cons_succ]
                      go_simp
                      refine hK _ _ wI.heap.size wI.heap.size _ ?_ (Nat.le_refl _) (Nat.le_refl _) (Nat.le_refl _) (Below.refl _ _) hS0.out rfl
                      simp only [putAll, Act.put, List.setIfInBounds_toArray, List.set_cons_zero, List.set_cons_succ, h5]
                    · intro X L H wI hS hd K hK
                      have h6 : X 6 = _ := hd 6 (by kernel_rfl)
                      have hS0 := hide hS
                      (try dsimp only at hS)
                      simp only [putAll, Act.put, List.setIfInBounds_toArray, List.set_cons_zero, List.set_cons_succ]
                      go_simp
                      refine hK _ _ wI.heap.size wI.heap.size _ ?_ (Nat.le_refl _) (Nat.le_refl _) (Nat.le_refl _) (Below.refl _ _) hS0.out rfl
                      simp only [putAll, Act.put, List.setIfInBounds_toArray, List.set_cons_zero, List.set_cons_succ, h6]
                    · intro X L H wI hS hd K hK
                      have hS0 := hide hS
                      (try dsimp only at hS)
                      simp only [putAll, Act.put, List.setIfInBounds_toArray, List.set_cons_zero, List.set_cons_succ]
                      go_simp
                      refine hK _ _ wI.heap.size wI.heap.size _ ?_ (Nat.le_refl _) (Nat.le_refl _) (Nat.le_refl _) (Below.refl _ _) hS0.out rfl
                      simp only [putAll, Act.put, List.setIfInBounds_toArray, List.set_cons_zero, List.set_cons_succ]
                    · intro X L H wI hS hd K hK
                      have h8 : X 8 = _ := hd 8 (by kernel_rfl)
                      have hS0 := hide hS
                      (try dsimp only at hS)
                      simp only [putAll, Act.put, List.setIfInBounds_toArray, List.set_cons_zero, List.set_cons_succ]
                      go_simp
                      refine hK _ _ wI.heap.size wI.heap.size _ ?_ (Nat.le_refl _) (Nat.le_refl _) (Nat.le_refl _) (Below.refl _ _) hS0.out rfl
                      simp only [putAll, Act.put, List.setIfInBounds_toArray, List.set_cons_zero, List.set_cons_succ, h8]
                    · intro X L H wI hS hd K hK
                      have h9 : X 9 = _ := hd 9 (by kernel_rfl)
                      have hS0 := hide hS
                      (try dsimp only at hS)
                      simp only [putAll, Act.put, List.setIfInBounds_toArray, List.set_cons_zero, List.set_cons_succ]
                      go_simp
                      refine hK _ _ wI.heap.size wI.heap.size _ ?_ (Nat.le_refl _) (Nat.le_refl _) (Nat.le_refl _) (Below.refl _ _) hS0.out rfl
                      simp only [putAll, Act.put, List.setIfInBounds_toArray, List.set_cons_zero, List.set_cons_succ, h9]
                    · intro X L H wI hS hd K hK
                      have h10 : X 10 = _ := hd 10 (by kernel_rfl)
                      have hS0 := hide hS
                      (try dsimp only at hS)
                      simp only [putAll, Act.put, List.setIfInBounds_toArray, List.set_cons_zero, List.set_cons_succ]
                      go_simp
                      refine hK _ _ wI.heap.size wI.heap.size _ ?_ (Nat.le_refl _) (Nat.le_refl _) (Nat.le_refl _) (Below.refl _ _) hS0.out rfl
                      simp only [putAll, Act.put, List.setIfInBounds_toArray, List.set_cons_zero, List.set_cons_succ, h10]
                    · intro X L H wI hS hd K hK
                      have hS0 := hide hS
                      (try dsimp only at hS)
                      simp only [putAll, Act.put, List.setIfInBounds_toArray, List.set_cons_zero, List.set_cons_succ]
                      go_simp
                      refine hK _ _ wI.heap.size wI.heap.size _ ?_ (Nat.le_refl _) (Nat.le_refl _) (Nat.le_refl _) (Below.refl _ _) hS0.out rfl
                      simp only [putAll, Act.put, List.setIfInBounds_toArray, List.set_cons_zero, List.set_cons_succ]
                    · intro X L H wI hS hd K hK
                      have h12 : X 12 = _ := hd 12 (by kernel_rfl)
                      have hS0 := hide hS
                      (try dsimp only at hS)
                      simp only [putAll, Act.put, List.setIfInBounds_toArray, List.set_cons_zero, List.set_cons_succ]
                      go_simp
                      refine hK _ _ wI.heap.size wI.heap.size _ ?_ (Nat.le_refl _) (Nat.le_refl _) (Nat.le_refl _) (Below.refl _ _) hS0.out rfl
                      simp only [putAll, Act.put, List.setIfInBounds_toArray, List.set_cons_zero, List.set_cons_succ, h12]
                    · intro X L H wI hS hd K hK
                      have h13 : X 13 = _ := hd 13 (by kernel_rfl)
                      have hS0 := hide hS
                      (try dsimp only at hS)
                      simp only [putAll, Act.put, List.setIfInBounds_toArray, List.set_cons_zero, List.set_cons_succ]
                      go_simp
                      refine hK _ _ wI.heap.size wI.heap.size _ ?_ (Nat.le_refl _) (Nat.le_refl _) (Nat.le_refl _) (Below.refl _ _) hS0.out rfl
                      simp only [putAll, Act.put, List.setIfInBounds_toArray, List.set_cons_zero, List.set_cons_succ, h13]
                    · intro X L H wI hS hd K hK
                      have h14 : X 14 = _ := hd 14 (by kernel_rfl)
                      have hS0 := hide hS
                      (try dsimp only at hS)
                      simp only [putAll, Act.put, List.setIfInBounds_toArray, List.set_cons_zero, List.set_cons_succ]
                      go_simp
                      refine hK _ _ wI.heap.size wI.heap.size _ ?_ (Nat.le_refl _) (Nat.le_refl _) (Nat.le_refl _) (Below.refl _ _) hS0.out rfl
                      simp only [putAll, Act.put, List.setIfInBounds_toArray, List.set_cons_zero, List.set_cons_succ, h14]
                    · intro X L H wI hS hd K hK
                      (try have h7 : X 7 = _ := hd 7 (by kernel_rfl))
                      (try have h11 : X 11 = _ := hd 11 (by kernel_rfl))
                      (try have h15 : X 15 = _ := hd 15 (by kernel_rfl))
                      have hS0 := hide hS
                      (try dsimp only at hS)
                      simp only [putAll, Act.put, List.setIfInBounds_toArray, List.set_cons_zero, List.set_cons_succ]
                      (go_simp; go_at_call 80; refine (hBk.out _ hS0.out.1).mono ?_; rintro e wB ⟨ab, kb, rfl, oB, hbB⟩; refine hK _ _ wI.heap.size wB.heap.size _ ?_ (Nat.le_refl _) hbB.size (Nat.le_refl _) hbB (key1.out _ (hS0.out.1.trans (hbB.mono hS0.out.2.2.2.2.2.2))) ⟨ab, kb, rfl, oB.base_le hS0.out.2.2.2.2.2.2⟩; simp only [putAll, Act.put, List.setIfInBounds_toArray, List.set_cons_zero, List.set_cons_succ, h7, h11, h15])
                    · intro X L H wI hS hd K hK
                      (try have h3 : X 3 = _ := hd 3 (by kernel_rfl))
                      (try have h16 : X 16 = _ := hd 16 (by kernel_rfl))
                      have hS0 := hide hS
                      (try dsimp only at hS)
                      simp only [putAll, Act.put, List.setIfInBounds_toArray, List.set_cons_zero, List.set_cons_succ]
                      (obtain ⟨ab, kb, h16, o16⟩ := hd 16 (by kernel_rfl); go_simp; go_at_call 79; refine (hWk.out _ hS0.out.1 ab kb o16).mono ?_; rintro e wB ⟨rfl, hbB⟩; refine hK _ _ wI.heap.size wB.heap.size _ ?_ (Nat.le_refl _) hbB.size (Nat.le_refl _) hbB (key1.out _ (hS0.out.1.trans (hbB.mono hS0.out.2.2.2.2.2.2))) ⟨ab, kb, rfl, o16.stays hbB⟩; simp only [putAll, Act.put, List.setIfInBounds_toArray, List.set_cons_zero, List.set_cons_succ, h16, h3])
                    · intro X L H wI hS hd K hK
                      have hS0 := hide hS
                      (try dsimp only at hS)
                      simp only [putAll, Act.put, List.setIfInBounds_toArray, List.set_cons_zero, List.set_cons_succ]
                      (go_simp; refine hK _ (.pointer (some ⟨wI.heap.size, 0, none⟩)) wI.heap.size (wI.heap.size + 1) _ ?_ (Nat.le_refl _) (by omega) (by simp) ((Below.refl _ _).alloc (Nat.le_refl _) _) (key1.out _ (hS0.out.1.alloc hS0.out.2.2.2.2.2.2 _)) ⟨rfl, hS0.out.2.2.2.2.2.2, by omega, by simp [go_sem], by simp [go_sem], by simp [go_sem], by simp [go_sem]⟩; simp only [putAll, Act.put, List.setIfInBounds_toArray, List.set_cons_zero, List.set_cons_succ])
                  case hend =>
                    intro X L H wI hS hF hP
                    (obtain ⟨ab, kb, f17, o17⟩ := (hF 17 (by omega)).1; obtain ⟨f18, b18, l18, n0, n1, g0, g1⟩ := (hF 18 (by omega)).1; have hbI := hS.1; clear hS hF hP; replace o17 := hide o17; replace hbI := hide hbI; have zI := cell_lt n0; simp only at zI)
                    simp only [putAll, Act.put, List.setIfInBounds_toArray, List.set_cons_zero, List.set_cons_succ, f17, f18]
                    change wpAny _ _ _ _ (0 + 1) _ _ _
                    refine wpAny_ready (rs := [19]) (by kernel_rfl) (by simp) (AllReady.cons rfl (fun K hK => ?_) AllReady.nil)
                    go_simp
                    refine hK _ _ ?_
                    clear hK K
                    refine wpAny_done (by kernel_rfl) ?_ _
                    obtain ⟨bt, hbt⟩ : ∃ b, b = L 18 := ⟨_, rfl⟩
                    simp only [← hbt] at b18 l18 n0 n1 g0 g1 zI ⊢
                    have hne : (Value.slice ab Lu kb).ownBlock ≠ some bt := fun e => by
                      obtain ⟨g, rfl, _, _⟩ := o17.out.blockI' (by omega)
                      have h1 := o17.out.getI 0 (by omega)
                      simp only [Value.ownBlock, Option.some.injEq] at e
                      subst e
                      rw [n0] at h1
                      cases h1
                    obtain ⟨w10, hw10⟩ : ∃ w10, w10 = (wI.setCell ⟨bt, 0, none⟩ (.slice ab Lu kb)).setCell ⟨bt, 1, none⟩ (.int .i64 cst) := ⟨_, rfl⟩
                    have hb10 : Below w9.heap.size w9 w10 := by rw [hw10]; exact (hbI.out.setCell b18 _).setCell b18 _
                    have u0 : w10.cell? ⟨bt, 0, none⟩ = some (.slice ab Lu kb) := by rw [hw10]; simp [go_sem, n0, n1]
                    have u1 : w10.cell? ⟨bt, 1, none⟩ = some (.int .i64 cst) := by rw [hw10]; simp [go_sem, n0, n1]
                    have o10 := hide (show Own encI 1 3 w10 w9.heap.size (.slice ab Lu kb) pu by rw [hw10]; exact (o17.out.elsewhere hne _).elsewhere hne _)
                    simp only [← hw10]
                    replace hw10 := hide hw10
                    replace hbt := hide hbt
                    have m0 := cu_below hb10 m0 zb9
                    have m1 := cu_below hb10 m1 zb9
                    have f0 := fu_below hb10 f0 zb9
                    have f1 := fu_below hb10 f1 zb9
                    have z5 : b5 < w10.heap.size := cell_lt m0
                    have zt : bt < w10.heap.size := cell_lt u0
                    replace hb10 := hide hb10
                    clear o17 hbI n0 n1 g0 g1 hne zI key1 hBk hWk
                    by_cases hlt3 : cst < kc
                    · have hab := hide (show ABest n tgN es s1 (pu, cst) by have := hA.out; rwa [if_pos hlt3] at this)
                      have v0 : ((w10.setCell ⟨b5, 0, none⟩ (.slice ab Lu kb)).setCell ⟨b5, 1, none⟩ (.int .i64 cst)).cell? ⟨b5, 0, none⟩ = some (.slice ab Lu kb) := by simp [go_sem, m0, m1]
                      have v1 : ((w10.setCell ⟨b5, 0, none⟩ (.slice ab Lu kb)).setCell ⟨b5, 1, none⟩ (.int .i64 cst)).cell? ⟨b5, 1, none⟩ = some (.int .i64 cst) := by simp [go_sem, m0, m1]
                      have hne2 : (Value.slice ab Lu kb).ownBlock ≠ some b5 := fun e => by have := (o10.out.block_lt _ e).1; omega
                      have o11 := hide (((o10.out.elsewhere (p := ⟨b5, 0, none⟩) hne2 (.slice ab Lu kb)).elsewhere (p := ⟨b5, 1, none⟩) hne2 (.int .i64 cst)).base_le hzw1)
                      have hb11 := hide (show Below w7.heap.size w7 ((w10.setCell ⟨b5, 0, none⟩ (.slice ab Lu kb)).setCell ⟨b5, 1, none⟩ (.int .i64 cst)) from ((hb8.out.trans (hb10.out.mono hb8.out.size)).setCell zb5 _).setCell zb5 _)
                      have hap := hide (fun j hj => hpapR.out j (o10.out.block_lt j hj).1)
                      clear hA
                      go_wp2
                      go_meet
                      case rel => exact ⟨ab, Lu, kb, (pu, cst), v0, v1, hide hpl2.symm, hab, o11, hap, hb11⟩
                    · have hab := hide (show ABest n tgN es s1 (lp, kc) by have := hA.out; rwa [if_neg hlt3] at this)
                      have hb11 := hide (hb8.out.trans (hb10.out.mono hb8.out.size))
                      have hpo9 := hide (hpo.out.stays hb11.out)
                      clear hA
                      go_wp2
                      go_meet
                      case rel => exact ⟨pa, pm, pc, (lp, kc), m0, m1, hide hpm.symm, hab, hpo9, hpap, hb11⟩
              case rest =>
                clear m0 m1 f0 f1 hb8 hpo hpap hlw hlp hpm zb9
                obtain ⟨ap, pn, cp, p, m0, m1, hpn, hab, hpo, hpap, hb8⟩ := hcut
                obtain ⟨w11, hw11⟩ : ∃ w11, w11 = wc := ⟨_, rfl⟩
                simp only [← hw11] at m0 m1 hpo hb8 ⊢
                clear hw11
                have hX9 := hide (hX6.out.stays hb8.out)
                have hm8 : m ≤ 8 := hm.out.2.2
                have hros : ros.length = t := by rw [hX9.out.told.1]; exact ht.out.symm
                obtain ⟨bw2, ow2, ew, hbw2, r0, r1⟩ := (row_keep hC.out.wr hX9.out.keep hC.out.wx).p2 t (by have := hm.out; omega)
                cases ew
                rw [(show ws[t]'(by have := hm.out; omega) = r from (List.getElem?_eq_some_iff.1 hr.out).2)] at r0 r1
                obtain ⟨ra, hra⟩ : ∃ x, x = r.a := ⟨_, rfl⟩
                obtain ⟨rb2, hrb⟩ : ∃ x, x = r.b := ⟨_, rfl⟩
                obtain ⟨D, hD⟩ : ∃ x, x = s1.done := ⟨_, rfl⟩
                rw [← hra] at r0
                rw [← hrb] at r1
                have k5 := hX9.out.c5
                have k11 := hX9.out.c11
                rw [← hD] at k11
                have k12 := hX9.out.c12
                have kf := hX9.out.fz 12
                have hrl := hX9.out.lt
                have hnsb : (Value.slice ar t rc).ownBlock ≠ some rb := fun e => by have := (hX9.out.rnds.block_lt _ e).1; omega
                have hnbw : (Value.slice ar t rc).ownBlock ≠ some bw := fun e => by have := (hX9.out.rnds.block_lt _ e).1; omega
                have hnb5 : (Value.slice ar t rc).ownBlock ≠ some b5 := fun e => by have := (hX6.out.rnds.block_lt _ e).2; omega
                have hKey := hide (show ∀ w', Keep (fun j => (Value.slice ar t rc).ownBlock = some j) w11 w' → (w'.cell? ⟨rb, 12, none⟩ = some (.slice ar t rc) ∧ w'.cell? ⟨rb, 5, none⟩ = some (.slice (some ⟨bw, ow, none⟩) m wk) ∧ w'.cell? ⟨rb, 11, none⟩ = some (.int .i64 (D : Int)) ∧ w'.cell? ⟨bw, ow + t * 2, none⟩ = some (.int .i64 ra) ∧ w'.cell? ⟨bw, ow + t * 2 + 1, none⟩ = some (.int .i64 rb2) ∧ w'.cell? ⟨b5, 0, none⟩ = some (.slice ap pn cp) ∧ w'.cell? ⟨b5, 1, none⟩ = some (.int .i64 p.2) ∧ w'.frozen? ⟨rb, 12, none⟩ = false) from fun w' kp =>
                  ⟨kp.cu k12 hnsb, kp.cu k5 hnsb, kp.cu k11 hnsb, kp.cu r0 hnbw, kp.cu r1 hnbw, kp.cu m0 hnb5, kp.cu m1 hnb5, (kp.frozen (p := ⟨rb, 12, none⟩) (show rb < _ from cell_lt k12) hnsb).trans kf⟩)
                have hz9 := hX9.out.big
                have itt : (0 : Int) ≤ (t : Int) ∧ (t : Int) < (m : Int) := by omega
                replace hra := hide hra
                replace hrb := hide hrb
                replace hD := hide hD
                replace hros := hide hros
                clear r0 r1 k5 k11 k12 kf hbw2 m0 m1 hX6 hnsb hnbw hnb5
                go_upto_region 12 with fail
                refine wp_region_end (S := (fun w' => w'.cell? ⟨rb, 12, none⟩ = some (.slice ar t rc) ∧ w'.cell? ⟨rb, 5, none⟩ = some (.slice (some ⟨bw, ow, none⟩) m wk) ∧ w'.cell? ⟨rb, 11, none⟩ = some (.int .i64 (D : Int)) ∧ w'.cell? ⟨bw, ow + t * 2, none⟩ = some (.int .i64 ra) ∧ w'.cell? ⟨bw, ow + t * 2 + 1, none⟩ = some (.int .i64 rb2) ∧ w'.cell? ⟨b5, 0, none⟩ = some (.slice ap pn cp) ∧ w'.cell? ⟨b5, 1, none⟩ = some (.int .i64 p.2) ∧ w'.frozen? ⟨rb, 12, none⟩ = false)) (t := 26) (by kernel_rfl) ?_ (fun hHeld hInv => ?_)
                · exact hKey.out _ (Keep.new (below_drew w11))
                replace hInv := hide hInv
                refine planE [0, 1, 2, 3, 4, 5, 6, 7, 8, 9, 10, 11, 12, 13, 14, 15, 16, 17, 18, 19, 20, 21] ?_
                iterate 22
                  refine PlanE.take (v := ?_) (List.getElem?_toArray.trans rfl) (by kernel_rfl) (fun _ _ _ h => h) (Or.inl ⟨by rfl, ?_⟩) hInv.out (by assumption) (fun hInv' => ?_)
                  rotate_left
                  · intro w hSw; (try dsimp only at hSw); go_simp; (try with_reducible rfl)
                  replace hInv := hide hInv'; clear hInv'; try simp only [Act.put, List.setIfInBounds_toArray, List.set_cons_zero, List.set_cons_succ]
                refine wpAnyE_one (i := 22) (List.getElem?_toArray.trans rfl) (by kernel_rfl) (fun K hK => ?_) hInv.out
                (go_simp)
                have hHeld := hKey.out _ (Keep.new (up_alloc (o := .cells #[.int .i64 ra, .int .i64 rb2, .slice ap pn cp, .int .i64 p.2, .int .i64 (D : Int)] 60) (below_drew w11) (Nat.le_refl _)))
                refine hK.out _ _ (fun _ => hHeld) (fun hInv' => ?_)
                clear hK K; replace hInv := hide (hInv' (by decide)); clear hInv'; try simp only [Act.put, List.setIfInBounds_toArray, List.set_cons_zero, List.set_cons_succ]
                refine wpAnyE_one (i := 23) (List.getElem?_toArray.trans rfl) (by kernel_rfl) (fun K hK => ?_) hInv.out
                (refine step_pushLA (base := w1.heap.size) (e := 60) (enc := encR) (xs := ros) (v := .slice ar t rc) rfl (.tmp 108) (.tmp 126) 44 rfl _ 56 Tryz.underlying44 info_round rfl ?p1 lenR oneR t hros.out rfl ((hX9.out.stays (up_alloc (o := .cells #[.int .i64 ra, .int .i64 rb2, .slice ap pn cp, .int .i64 p.2, .int .i64 (D : Int)] 60) (below_drew w11) (Nat.le_refl _))).rnds) ⟨w11.heap.size, 0, none⟩ 1 ⟨ra, rb2, ap, pn, cp, p.2, (D : Int)⟩ rfl ?p2 ?p3 ?p4 ?p5 ?_; (case p1 => omega); (case p2 => exact newR w11 _ _ _ rfl); (case p3 => omega); (case p4 => unfold maxLen; omega); (case p5 => exact (hX9.out.stays (up_alloc (o := .cells #[.int .i64 ra, .int .i64 rb2, .slice ap pn cp, .int .i64 p.2, .int .i64 (D : Int)] 60) (below_drew w11) (Nat.le_refl _))).big); intro g6 c6 w12 own6 hgr6 hat6 hlt6; have kp6 := Keep.grown (S := fun j => (Value.slice ar t rc).ownBlock = some j) (Keep.refl _ (w11.drew.alloc (.cells #[.int .i64 ra, .int .i64 rb2, .slice ap pn cp, .int .i64 p.2, .int .i64 (D : Int)] 60))) hgr6 (fun j hj => .inl hj))
                have hHeld := hKey.out _ ((Keep.new (up_alloc (o := .cells #[.int .i64 ra, .int .i64 rb2, .slice ap pn cp, .int .i64 p.2, .int .i64 (D : Int)] 60) (below_drew w11) (Nat.le_refl _))).trans kp6)
                refine hK.out _ _ (fun _ => hHeld) (fun hInv' => ?_)
                clear hK K; replace hInv := hide (hInv' (by decide)); clear hInv'; try simp only [Act.put, List.setIfInBounds_toArray, List.set_cons_zero, List.set_cons_succ]
                refine planE [24, 25] ?_
                iterate 2
                  refine PlanE.take (v := ?_) (List.getElem?_toArray.trans rfl) (by kernel_rfl) (fun _ _ _ h => h) (Or.inl ⟨by rfl, ?_⟩) hInv.out (by assumption) (fun hInv' => ?_)
                  rotate_left
                  · intro w hSw; (try dsimp only at hSw); go_simp; (try with_reducible rfl)
                  replace hInv := hide hInv'; clear hInv'; try simp only [Act.put, List.setIfInBounds_toArray, List.set_cons_zero, List.set_cons_succ]
                refine wpAnyE_one (i := 26) (List.getElem?_toArray.trans rfl) (by kernel_rfl) (fun K hK => ?_) hInv.out
                (try dsimp only at hHeld); go_simp
                refine hK.out _ _ (fun h => absurd rfl h) (fun _ => ?_)
                clear hK K hInv; try simp only [Act.put, List.setIfInBounds_toArray, List.set_cons_zero, List.set_cons_succ]
                refine wpAnyE_done (by kernel_rfl) ?_ _
                have hX10 := hide ((hX9.out.stays (up_alloc (o := .cells #[.int .i64 ra, .int .i64 rb2, .slice ap pn cp, .int .i64 p.2, .int .i64 (D : Int)] 60) (below_drew w11) (Nat.le_refl _))).setR (t := ⟨r.a, r.b, p.1, p.2, s1.done⟩) ⟨hra.out, hrb.out, rfl, congrArg _ hD.out, hpn.out, hpo.out.stays (up_alloc (o := .cells #[.int .i64 ra, .int .i64 rb2, .slice ap pn cp, .int .i64 p.2, .int .i64 (D : Int)] 60) (below_drew w11) (Nat.le_refl _))⟩ hpap.out kp6 own6 (fun j hj => by
                  simp only [Value.ownBlock, Option.some.injEq] at hj
                  subst hj
                  exact hat6.imp id (fun e => Nat.le_of_eq e.symm)))
                generalize w12.setCell ⟨rb, 12, none⟩ (.slice (some ⟨g6, 0, none⟩) (t + 1) c6) = w14 at hX10 ⊢
                have hset2 := hide (fun s' (hh : ASettle ws es h n tgN (atell r p s1) s') => hset.out s' (ASettle.tell s1 s' r p (by rw [← ht.out]; exact hr.out) hnl.out hab.out hh))
                have hin2 := hide (ainv_tell hs1.out htg hn64.2 r hab.out)
                have hal2 := hide (al_tell hL.out hs1.out.ok r p)
                have htl2 := hide (show t + 1 = (s1.told ++ [(⟨r.a, r.b, p.1, p.2, s1.done⟩ : RD)]).length by rw [List.length_append, ← ht.out]; rfl)
                have hgk2 : m + 1 ≤ gk - 1 + (t + 1) := by have := ht.out; omega
                have hL2 := al_llen hL.out
                have hk2n : k2 ≤ 600 := by have := hk2.out; have := hEd.out.2.2; omega
                have hk0n : k0 ≤ 64 := by have := hk0.out; omega
                have hX11 := hide (hX10.out.congr (sv' := sv3 (.slice a0 k0 c0) (.slice a1 k1 c1) (.slice a2 k2 c2)) (sl' := sv3 (addL (sl 0) ((sl 2).take 0)) (sl 1) (sl 2)) (fun _ _ => rfl) (lt3 rfl rfl rfl))
                have hk0' := hide (show k0 = (addL (sl 0) ((sl 2).take 0)).length from hk0.out)
                clear kp6 own6 hgr6 hat6 hlt6 hHeld hKey hX9 hset hX10 hpo hpap hab hnl hpn
                have k10 : w14.cell? ⟨rb, 10, none⟩ = some (.slice a2 k2 c2) := hX11.out.cs 2 (by omega)
                go_wp2
                go_loopw [135] (fun i wr => ∃ (j : Nat) (a3 : Option Addr) (k3 c3 : Nat), j ≤ k2 ∧ i = .int .i64 (j : Int) ∧ Hid (RXf n rb mb pb nm (.slice ae el ec) (.slice ha n hc) (.slice (some ⟨bw, ow, none⟩) m wk) fr (tgN : Int) (sv3 (.slice a3 k3 c3) (.slice a1 k1 c1) (.slice a2 k2 c2)) (sv3 (addL (sl 0) ((sl 2).take j)) (sl 1) (sl 2)) (.slice (some ⟨g6, 0, none⟩) (t + 1) c6) (ros ++ [⟨ra, rb2, ap, pn, cp, p.2, (D : Int)⟩]) { s1 with told := s1.told ++ [⟨r.a, r.b, p.1, p.2, s1.done⟩] } w1 wr) ∧ Hid (k3 = (addL (sl 0) ((sl 2).take j)).length) ∧ k3 ≤ 64 + j) (fun i _ => k2 - (intOf i).toNat)
                case atStart => exact ⟨0, a0, k0, c0, Nat.zero_le _, rfl, hX11, hk0', by omega⟩
                case round =>
                  clear hX11 hk0' k10
                  obtain ⟨j, a3, k3, c3, hj, rfl, hX, hk3, hk3n⟩ := hrel
                  by_cases hlt : j < k2
                  · have hjl : j < (sl 2).length := by have := hk2.out; omega
                    have oL := hX.out.os 2 (by omega)
                    obtain ⟨gl, rfl, hgl1, hgl2⟩ := Own.blockI' (show Own encI 1 3 wr w1.heap.size (.slice a2 k2 c2) (LP (sl 2)) from oL) (by omega)
                    obtain ⟨u, hu⟩ : ∃ u, u = (sl 2)[j] := ⟨_, rfl⟩
                    have f2 : wr.cell? ⟨gl, j, none⟩ = some (.int .i64 (u : Int)) := by
                      have := Own.getI (show Own encI 1 3 wr w1.heap.size (.slice (some ⟨gl, 0, none⟩) k2 c2) (LP (sl 2)) from oL) j (by rw [lp_len]; exact hjl)
                      rw [hu]; simpa [LP] using this
                    have hst2 := addL_step (wl := sl 0) hjl
                    rw [← hu] at hst2
                    obtain ⟨W, hW⟩ : ∃ W, W = addL (sl 0) ((sl 2).take j) := ⟨_, rfl⟩
                    rw [← hW] at hX hk3 hst2
                    have k8 : wr.cell? ⟨rb, 8, none⟩ = some (.slice a3 k3 c3) := hX.out.cs 0 (by omega)
                    have zs := cell_lt k8
                    simp only at zs
                    have hcc := hide (contI_any (u : Int) a3 c3 k3 (LP W) wr wr.heap.size (by rw [lp_len]; exact hk3.out.symm) (own_rowL (hX.out.os 0 (by omega))) (by omega))
                    have ij : (0 : Int) ≤ (j : Int) ∧ (j : Int) < (k2 : Int) := by omega
                    replace hu := hide hu
                    replace hW := hide hW
                    by_cases hin : u ∈ W
                    · have hdq : decide ((u : Int) ∈ LP W) = true := by simpa using lp_mem.2 hin
                      rw [hdq] at hcc
                      rw [if_pos hin] at hst2
                      rw [← hst2] at hX hk3
                      clear hst2 hin hdq oL
                      go_wp2_with fail
                      refine hcc.out.mono ?_
                      rintro e w15 ⟨rfl, rfl⟩
                      go_wp2
                      go_roundw
                      case rel => exact ⟨j + 1, a3, k3, c3, by omega, by go_num, hX, hk3, by omega⟩
                      case measure => simp [intOf]; omega
                    · have hdq : decide ((u : Int) ∈ LP W) = false := by simpa using fun hc => hin (lp_mem.1 hc)
                      rw [hdq] at hcc
                      rw [if_neg hin] at hst2
                      have o0 := hX.out.os 0 (by omega)
                      have o0 : Own encI 1 3 wr w1.heap.size (.slice a3 k3 c3) (LP W) := o0
                      have hlw : (LP W).length = k3 := by rw [lp_len]; exact hk3.out.symm
                      have hla := hide (lp_app W u)
                      have hk33 := hide (show k3 + 1 = (W ++ [u]).length by rw [List.length_append, hk3.out]; rfl)
                      have f8 := hX.out.fz 8
                      have hz1 := hX.out.big
                      have hrb := hX.out.lt.1
                      have hav := hide (fun j hj => (o0.block_lt j hj))
                      replace o0 := hide o0
                      replace hst2 := hide hst2
                      clear hin hdq oL
                      go_wp2_with fail
                      refine hcc.out.mono ?_
                      rintro e w15 ⟨rfl, rfl⟩
                      go_wp2_with (at_builtin; (refine wpList_pushL (e := 3) (enc := encI) (xs := (LP W)) (v := .slice a3 (k3) c3) (base := w1.heap.size) rfl (.tmp 150) (.tmp 152) 22 rfl _ 8 Tryz.underlying22 info_int rfl ?d17 lenI oneI (k3) ?d27 ?d37 ?d47 ⟨w15.heap.size, 0, none⟩ 1 (u : Int) ?d57 ?d67 ?d77 ?d87 ?d97 ?_); (case d17 => omega); (case d27 => exact hlw); (case d37 => rfl); (case d47 => exact (o0.out.alloc _)); (case d57 => rfl); (case d67 => exact newI _ _ _ _ rfl); (case d77 => omega); (case d87 => unfold maxLen; omega); (case d97 => first | omega | (simp; done) | (simp; omega)); intro g7 c7 w7 own7 hb7 hgr7 hat7 hgl7; rw [← hla.out] at own7; have kp7 := Keep.grown (S := fun j => (Value.slice a3 k3 c3).ownBlock = some j) (Keep.refl _ _) hgr7 (fun j hj => .inl hj); have hno7 : (Value.slice a3 k3 c3).ownBlock ≠ some rb := (fun e => by have := (hav.out _ e).1; omega); have m9 := kp7.cu (cu_alloc (o := .cells #[.int .i64 (u : Int)] 3) k8) hno7; have g9 := (kp7.frozen (p := ⟨rb, 8, none⟩) (by simp; omega) hno7).trans (fu_alloc f8); have hX16 := hide ((hX.out.stays ((Below.refl _ _).alloc (Nat.le_refl _) (.cells #[.int .i64 (u : Int)] 3))).set0 kp7 own7 (fun j hj => by simp only [Value.ownBlock, Option.some.injEq] at hj; subst hj; exact hat7.imp id (fun e => Nat.le_of_eq e.symm))); have z9 := cell_lt m9; replace hgr7 := hide hgr7; replace hb7 := hide hb7; clear kp7 own7 hat7)
                      go_roundw
                      case rel => exact ⟨j + 1, _, k3 + 1, c7, by omega, by go_num, by rw [hst2.out]; exact hX16, by rw [hst2.out]; exact hk33, by omega⟩
                      case measure => simp [intOf]; omega
                  · obtain rfl : k2 = j := by omega
                    have htk : (sl 2).take k2 = sl 2 := List.take_of_length_le (by rw [hk2.out]; exact Nat.le_refl _)
                    rw [htk] at hX hk3
                    have k9 : wr.cell? ⟨rb, 9, none⟩ = some (.slice a1 k1 c1) := hX.out.cs 1 (by omega)
                    have k10 : wr.cell? ⟨rb, 10, none⟩ = some (.slice a2 k2 c2) := hX.out.cs 2 (by omega)
                    have f9 := hX.out.fz 9
                    have f10 := hX.out.fz 10
                    have hX17 := hide ((hX.out.set1 (v' := .slice none 0 0) (l' := []) (Keep.refl _ _) (Own.nil _ _) (fun j hj => by simp [Value.ownBlock] at hj)).set2 (v' := .slice none 0 0) (l' := []) (Keep.refl _ _) (Own.nil _ _) (fun j hj => by simp [Value.ownBlock] at hj))
                    clear hX htk
                    go_wp2
                    go_roundg (gk - 1)
                    case measure => omega
                    case rel => exact ⟨atell r p s1, hide ⟨nm, a3, k3, c3, none, 0, 0, none, 0, 0, _, _, t + 1, c6, _, hX17.out.re (atell r p s1) rfl rfl rfl rfl, htl2.out, hal2.out, hk3.out, rfl, rfl, hnm⟩, hin2, hset2, (by show m + 1 ≤ gk - 1 + (s1.told ++ [_]).length; rw [← htl2.out]; exact hgk2), (by show (s1.told ++ [_]).length ≤ m; rw [← htl2.out]; omega)⟩
end
end Go.Proofs.YtccailcjclbhlaaGreat

/-! The document's search by rounds: what NewRounds returns. Conditions: that the arguments read, and may be searched. -/
namespace Go.Proofs.YtccailcjclbhlaaGreat
open Go.RowKit
set_option linter.unusedSimpArgs false
set_option linter.unusedVariables false
theorem astart_far {h : Nat → Int} {v : Nat} (hf : h v = FAR) : aStart h v = a01 := by unfold aStart; rw [if_pos hf]; rfl
theorem astart_near {h : Nat → Int} {v : Nat} (hf : ¬ h v = FAR) : aStart h v = { a01 with cost := upz (fun _ => FAR) v 0, wt := upz (fun _ => false) v true } := by unfold aStart; rw [if_neg hf]; rfl
theorem costM_none (n : Nat) : costM n (fun _ => FAR) = fun _ => none := by
  funext x
  unfold costM
  rw [if_neg (fun h => Int.lt_irrefl _ h.2.2)]
attribute [local instance] AFr.none
/-- what NewRounds leaves -/
def RNewAns (n tg : Nat) (es : List Ed) (h : Nat → Int) (ws : List P2) (v : Nat) (hc m wk el ec : Nat) (ha aw ae : Option Addr) (w0 : World) (e : Ending) (w' : World) : Prop :=
  ∃ rb mb pb w1 s', e = .returned (.pointer (some ⟨rb, 0, none⟩)) ∧ AC n rb mb pb mb pb hc m wk el ec ha aw ae h ws es w1 ∧ ASettle ws es h n tg (aStart h v) s' ∧ RAS n rb mb pb (.slice ae el ec) (.slice ha n hc) (.slice aw m wk) (v : Int) (tg : Int) es s' w1 w' ∧ AInv n h s' ∧ s'.told.length ≤ ws.length ∧ (∀ wz, Keep (RXb rb mb pb) w1 wz → Below w0.heap.size w0 wz) ∧ (∀ j, RXb rb mb pb j → w0.heap.size ≤ j) ∧ (∀ b o, ae = some ⟨b, o, none⟩ → es ≠ [] → ¬ RXb rb mb pb b)
set_option maxRecDepth 100000 in
set_option maxHeartbeats 4000000 in
theorem rnew_any (n v tgN hc m wk el ec : Nat) (ae ha aw : Option Addr) (es : List Ed) (h : Nat → Int) (ws : List P2) (w : World) (B : Nat) (hB : B ≤ w.heap.size) (hE : Row encE 3 w B ae es) (hH : Row encI 1 w B ha (LI n h)) (hW : Row encP 2 w B aw ws) (hn : 1 ≤ n ∧ n ≤ 64) (hv : v < n) (htg : tgN < n) (hh : ∀ u, u < n → 0 ≤ h u ∧ h u ≤ 1099511627776) (hw : ∀ r ∈ ws, WOk r) (wl : ws.length = m ∧ 1 ≤ m ∧ m ≤ 8) (hes : Right n es ∧ (∀ e ∈ es, 1 ≤ e.c) ∧ es.length = el ∧ el ≤ 600) :
    Calls Tryz.prog 47 #[.agg #[.int .i64 (n : Int), .slice ae el ec], .int .i64 (v : Int), .int .i64 (tgN : Int), .slice ha n hc, .slice aw m wk] w (RNewAns n tgN es h ws v hc m wk el ec ha aw ae w) := by
  obtain ⟨bh, oh, rfl, hbh, g0⟩ := hH.atI v hv
  obtain ⟨bw, ow, rfl, hbw, -, -⟩ := hW.p2 0 (by omega)
  have hhv := hh v hv
  obtain ⟨y, hy⟩ : ∃ y, y = h v := ⟨_, rfl⟩
  rw [← hy] at g0 hhv
  have iv : (0 : Int) ≤ (v : Int) ∧ (v : Int) < (n : Int) := by omega
  replace hy := hide hy
  replace hE := hide hE
  replace hH := hide hH
  replace hW := hide hW
  replace hes := hide hes
  replace hw := hide hw
  replace hh := hide hh
  replace wl := hide wl
  have hmm := @run_makeMap Tryz.prog
  go_enter Tryz.func47, Tryz.ntmps47
  go_upto_region 2 with fail
  clear hmm
  obtain ⟨w1, hw1⟩ : ∃ w1, w1 = (((w.alloc (.cells #[.int .i64 (n : Int), .slice ae el ec] 77)).alloc (.map #[] 0)).alloc (.map #[] 0)).alloc (.cells #[.int .i64 (n : Int), .slice ae el ec, .int .i64 (v : Int), .int .i64 (tgN : Int), .slice (some ⟨bh, oh, none⟩) n hc, .slice (some ⟨bw, ow, none⟩) m wk, .map (some (w.heap.size + 1)), .map (some (w.heap.size + 1 + 1)), .slice none 0 0, .slice none 0 0, .slice none 0 0, .int .i64 0, .slice none 0 0] 88) := ⟨_, rfl⟩
  obtain ⟨rb, hrb⟩ : ∃ rb, rb = w.heap.size + 1 + 1 + 1 := ⟨_, rfl⟩
  obtain ⟨mb, hmb⟩ : ∃ mb, mb = w.heap.size + 1 := ⟨_, rfl⟩
  obtain ⟨pb, hpb⟩ : ∃ pb, pb = w.heap.size + 1 + 1 := ⟨_, rfl⟩
  have hb1 : Below w.heap.size w w1 := by rw [hw1]; exact up_alloc (up_alloc (up_alloc (up_alloc (Below.refl _ _) (Nat.le_refl _)) (by simp)) (by simp; omega)) (by simp; omega)
  have hz1 : w1.heap.size = w.heap.size + 4 := by rw [hw1]; simp
  have hX0 : RXf n rb mb pb 0 (.slice ae el ec) (.slice (some ⟨bh, oh, none⟩) n hc) (.slice (some ⟨bw, ow, none⟩) m wk) (v : Int) (tgN : Int) (sv3 (.slice none 0 0) (.slice none 0 0) (.slice none 0 0)) (sv3 [] [] []) (.slice none 0 0) [] a01 w1 w1 := by
    have hM : IMap ((w.alloc (.cells #[.int .i64 (n : Int), .slice ae el ec] 77)).alloc (.map #[] 0)) mb 0 (fun _ => none) := by rw [hmb]; have := IMap.made (w.alloc (.cells #[.int .i64 (n : Int), .slice ae el ec] 77)); simpa using this
    have hP : IMap (((w.alloc (.cells #[.int .i64 (n : Int), .slice ae el ec] 77)).alloc (.map #[] 0)).alloc (.map #[] 0)) pb 0 (fun _ => none) := by rw [hpb]; have := IMap.made ((w.alloc (.cells #[.int .i64 (n : Int), .slice ae el ec] 77)).alloc (.map #[] 0)); simpa using this
    refine ⟨by rw [hw1, hrb]; simp [go_sem], by rw [hw1, hrb]; simp [go_sem], by rw [hw1, hrb]; simp [go_sem], by rw [hw1, hrb]; simp [go_sem], by rw [hw1, hrb]; simp [go_sem], by rw [hw1, hrb]; simp [go_sem], by rw [hw1, hrb, hmb]; simp [go_sem], by rw [hw1, hrb, hpb]; simp [go_sem], lt3 (by rw [hw1, hrb]; simp [go_sem, sv3]) (by rw [hw1, hrb]; simp [go_sem, sv3]) (by rw [hw1, hrb]; simp [go_sem, sv3]), by rw [hw1, hrb]; simp [go_sem, a01], by rw [hw1, hrb]; simp [go_sem], fun o => by rw [hw1, hrb]; simp [go_sem], ?_, ?_, lt3 (Own.nil _ _) (Own.nil _ _) (Own.nil _ _), Own.nil _ _, ⟨rfl, fun i hi => by simp [a01] at hi⟩, Keep.refl _ _, ?_, ?_, ?_, by omega, by omega, AF.ofNone _ _⟩
    · rw [show costM n a01.cost = fun _ => none from costM_none n, hw1]; exact (hM.alloc _).alloc _
    · rw [show predM n a01.pred = fun _ => none from predM_start n, hw1]; exact hP.alloc _
    · intro i j k hi hj hne e
      have : (sv3 (Value.slice none 0 0) (.slice none 0 0) (.slice none 0 0)) i = .slice none 0 0 := by unfold sv3; split <;> (try rfl); split <;> rfl
      rw [this] at e
      simp [Value.ownBlock] at e
    · intro i k hi e
      have : (sv3 (Value.slice none 0 0) (.slice none 0 0) (.slice none 0 0)) i = .slice none 0 0 := by unfold sv3; split <;> (try rfl); split <;> rfl
      rw [this] at e
      simp [Value.ownBlock] at e
    · intro k hk
      obtain ⟨r, hr, _⟩ := hk
      simp at hr
  have hnb : ∀ b, b < B → ¬ RXb rb mb pb b := fun b hb hc => by unfold RXb AXb at hc; omega
  have hC : AC n rb mb pb mb pb hc m wk el ec (some ⟨bh, oh, none⟩) (some ⟨bw, ow, none⟩) ae h ws es w1 := by
    refine ⟨(hH.out.below hb1 hB).mono (by omega), fun b o e => ?_, (hW.out.below hb1 hB).mono (by omega), fun b o e => ?_, fun wz hk => ?_, hn, hh.out, hw.out, wl.out, hes.out⟩
    · simp only [Option.some.injEq, Addr.mk.injEq] at e
      obtain ⟨rfl, _, _⟩ := e
      exact hnb _ hbh
    · simp only [Option.some.injEq, Addr.mk.injEq] at e
      obtain ⟨rfl, _, _⟩ := e
      exact hnb _ hbw
    · intro i hi
      obtain ⟨b, o, g1, g2, g3⟩ := (hE.out.below hb1 hB) i hi
      exact ⟨b, o, g1, by omega, fun j u hj => hk.cu (g3 j u hj) (hnb _ g2)⟩
  have hBel := hide (show ∀ wz, Keep (RXb rb mb pb) w1 wz → Below w.heap.size w wz from fun wz hk => hb1.trans (hk.toBelow (fun j hj => by unfold RXb AXb at hj; omega) (by omega)))
  have hLow := hide (show (∀ j, RXb rb mb pb j → w.heap.size ≤ j) ∧ (∀ b o, ae = some ⟨b, o, none⟩ → es ≠ [] → ¬ RXb rb mb pb b) from ⟨fun j hj => by unfold RXb AXb at hj; omega, fun b o e he => by
    obtain ⟨b2, o2, q1, q2, -⟩ := hE.out 0 (by cases es with | nil => exact absurd rfl he | cons _ _ => simp)
    rw [e] at q1
    simp only [Option.some.injEq, Addr.mk.injEq] at q1
    exact hnb b (by omega)⟩)
  have g1 := cu_below hb1 g0 (show bh < w.heap.size by omega)
  have hz2 : bh < w1.heap.size := by omega
  replace hX0 := hide hX0
  replace hC := hide hC
  have hs0 := hide (aok_start (n := n) (v := v) (h := h))
  have hin0 := hide (show AInv n h (aStart h v) from ⟨aok_start, by unfold aStart; split <;> exact Nat.zero_le _, by unfold aStart; split <;> simp [lastWay], by unfold aStart; split <;> simp⟩)
  have htold : (aStart h v).told = [] := by unfold aStart; split <;> rfl
  have hdone : (aStart h v).done = 0 := by unfold aStart; split <;> rfl
  have hend := hide (fun (e : Ending) (w' : World) (s' : AS) (hst : ASettle ws es h n tgN (aStart h v) s') (hR : RAS n rb mb pb (.slice ae el ec) (.slice (some ⟨bh, oh, none⟩) n hc) (.slice (some ⟨bw, ow, none⟩) m wk) (v : Int) (tgN : Int) es s' w1 w') (he : e = .returned (.pointer (some ⟨rb, 0, none⟩))) => (show RNewAns n tgN es h ws v hc m wk el ec (some ⟨bh, oh, none⟩) (some ⟨bw, ow, none⟩) ae w e w' from ⟨rb, mb, pb, w1, s', he, hC.out, hst, hR, ainv_settle hst htg hn.2 hin0.out, (settle_told hst (by rw [htold]; exact Nat.zero_le _)).1, hBel.out, hLow.out⟩))
  have hSet := hide (fun (w' : World) (hA : RAS n rb mb pb (.slice ae el ec) (.slice (some ⟨bh, oh, none⟩) n hc) (.slice (some ⟨bw, ow, none⟩) m wk) (v : Int) (tgN : Int) es (aStart h v) w1 w') => rsettle_any tgN htg hA hC.out hin0.out (by rw [htold]; exact Nat.zero_le _))
  simp only [← hw1, ← hrb]
  replace hw1 := hide hw1
  replace hrb := hide hrb
  replace hmb := hide hmb
  replace hpb := hide hpb
  clear g0 hb1 hnb hE hH hW hBel hin0 hLow
  have hrl := hX0.out.lt
  have hrne := hX0.out.ne
  by_cases hf : y = 1099511627776
  · have q1 : ¬ y < 1099511627776 := by omega
    have hA := hide (hSet.out w1 (by
      have e := astart_far (h := h) (v := v) (by rw [← hy.out]; exact hf)
      rw [e]
      exact ⟨0, none, 0, 0, none, 0, 0, none, 0, 0, _, none, 0, 0, [], hX0.out, rfl, ⟨by simp [sv3], fun u => by simp [sv3, a01], fun u => by simp [sv3, a01], by simp [sv3], fun u => by simp [sv3, a01], Nat.zero_le _⟩, rfl, rfl, rfl, by omega⟩))
    clear hX0 hf
    go_wp2_with fail
    refine hA.out.mono ?_
    rintro e w5 ⟨rfl, s', hst, hR⟩
    have hfin := hide (hend.out _ w5 s' hst hR rfl)
    clear hst hR hA hend hSet
    go_wp2
    go_ret
    exact hfin.out
  · have q1 : y < 1099511627776 := by omega
    have hbv : Bd (v : Int) := by unfold Bd; omega
    obtain ⟨wA, runA, imA, gA⟩ := hX0.out.cm.update 86 Tryz.underlying86 (by omega) (x := (v : Int)) (y := 0) hbv (by unfold Bd; omega)
    rw [show costM n a01.cost = fun _ => none from costM_none n, costM_start hv] at imA
    have kpA := (Keep.refl (fun j => j = mb ∨ j = pb) w1).grown gA (fun z hz => by cases hz; exact .inl (.inl rfl))
    have hXA := hide (hX0.out.setM (upz (fun _ => FAR) v 0) a01.pred kpA imA ((hX0.out.pm.keep (S := fun j => j = mb) ((Keep.refl (fun j => j = mb) w1).grown gA (fun z hz => by cases hz; exact .inl rfl)) (by omega)).mono (by omega)))
    have c8 := hXA.out.cs 0 (by omega)
    have f8 := hXA.out.fz 8
    have zA : rb < wA.heap.size := cell_lt c8
    have c6 := hX0.out.c6
    have own8 := own_one wA w1.heap.size 3 (v : Int) hXA.out.big
    have hXB := hide (hXA.out.set0 (l' := [v]) ((Keep.refl _ wA).alloc (.cells #[.int .i64 (v : Int)] 3)) own8 (fun j hj => by
      simp only [Value.ownBlock, Option.some.injEq] at hj
      exact .inr (Nat.le_of_eq hj)))
    have hA := hide (hSet.out _ (by
      have e := astart_near (h := h) (v := v) (by rw [← hy.out]; exact hf)
      rw [e]
      refine ⟨1, some ⟨wA.heap.size, 0, none⟩, 1, 1, none, 0, 0, none, 0, 0, _, none, 0, 0, [], hXB.out.re _ rfl rfl rfl rfl, rfl, ⟨by simp [sv3], fun u => ?_, fun u => by simp [sv3, a01], by simp [sv3], fun u => by simp [sv3, a01], Nat.zero_le _⟩, rfl, rfl, rfl, by omega⟩
      show u ∈ [v] ↔ u < n ∧ upz (fun _ => false) v true u = true
      rw [List.mem_singleton]
      by_cases huv : u = v
      · subst huv; simp [upz_same, hv]
      · rw [upz_other _ _ huv]; simp [huv]))
    have ew : (wA.alloc (.cells #[.int .i64 (v : Int)] 3)).setCell ⟨rb, 8, none⟩ (.slice (some ⟨wA.heap.size, 0, none⟩) 1 1) = (wA.setCell ⟨rb, 8, none⟩ (.slice (some ⟨wA.heap.size, 0, none⟩) 1 1)).alloc (.cells #[.int .i64 (v : Int)] 3) := by simp only [go_sem, zA]
    rw [ew] at hA
    have hrA : rb < wA.heap.size := zA
    clear ew
    clear hX0 hXA hXB imA gA kpA own8 hf
    go_wp2_with fail
    refine hA.out.mono ?_
    rintro e w5 ⟨rfl, s', hst, hR⟩
    have hfin := hide (hend.out _ w5 s' hst hR rfl)
    clear hst hR hA hend hSet
    go_wp2
    go_ret
    exact hfin.out
end Go.Proofs.YtccailcjclbhlaaGreat
