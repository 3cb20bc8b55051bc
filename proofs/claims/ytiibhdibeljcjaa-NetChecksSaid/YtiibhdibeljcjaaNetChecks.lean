/-
  Proved here: felllaw.NetChecks returns true whatever it is given. No conditions.
-/
import Derived.Test.YtiibhdibeljcjaaOpen
import Derived.Test.YtiibhdibeljcjaaOut
import Derived.Test.YtiibhdibeljcjaaPos
import Derived.Test.YtiibhdibeljcjaaEq
import Derived.Deep.RegionHeld3
import Derived.Deep.DeepCutAuto
namespace Go.Proofs.Ytiibhdibeljcjaa
open Go.ChangeShapes Go.WideShapes Go.ChangeAt Go.RowKit
set_option linter.unusedSimpArgs false
set_option linter.unusedVariables false

theorem outIdx_hit (es : List Ed) (u k : Nat) (hk : k < es.length) (hu : es[k].u = (u : Int)) : outIdx es u (k + 1) = outIdx es u k ++ [(k : Int)] := by
  have e' : (Option.map (fun x : Ed => x.u) es[k]?).getD (-1) = (u : Int) := by simp [List.getElem?_eq_getElem hk, hu]
  unfold outIdx
  rw [List.range_succ, List.filter_append, List.map_append]
  congr 1
  simp [List.filter_cons, e']
theorem outIdx_miss (es : List Ed) (u k : Nat) (hk : k < es.length) (hu : ¬ es[k].u = (u : Int)) : outIdx es u (k + 1) = outIdx es u k := by
  have e' : ¬ (Option.map (fun x : Ed => x.u) es[k]?).getD (-1) = (u : Int) := by simp [List.getElem?_eq_getElem hk, hu]
  unfold outIdx
  rw [List.range_succ, List.filter_append, List.map_append]
  simp [List.filter_cons, e']

theorem equalI_len (a b : Option Addr) (c1 c2 n : Nat) (xs ys : List Int) (w : World) (B C : Nat) (h1 : xs.length = n) (h2 : ys.length = n) (hx : Row encI 1 w B a xs) (hy : Row encI 1 w C b ys) (hl1 : n ≤ 9223372036854775807) (t : Bool) (ht : t = true ↔ xs = ys) :
    Calls Try.prog 36 #[.slice a n c1, .slice b n c2] w fun e w' => e = .returned (.bool t) ∧ ∃ n, w' = w.drewN n := by
  have := equalI a b c1 c2 xs ys w B C hx hy (by omega) (by omega) t ht
  rwa [h1, h2] at this

set_option maxHeartbeats 1000000 in
theorem walk_NetChecks (x0 : Int) (a0 : Option Addr) (cap0 : Nat) (es0 : List Ed) (x1 : Int) (w : World) (b0 : Bd x0) (l0 : es0.length ≤ cap0) (m0 : cap0 ≤ maxLen) (r0 : Row encE 3 w w.heap.size a0 es0) (be0 : ∀ x ∈ es0, BdE x) (b1 : Bd x1) :
    Calls Try.prog 13 #[.agg #[.int .i64 x0, .slice a0 es0.length cap0], .int .i64 x1] w fun e w' => e = .returned (.bool true) ∧ Below w.heap.size w w' := by
  have hl : es0.length ≤ 9223372036854775807 := by unfold maxLen at m0; omega
  have hC := hide (fun w B hB hE => check_any x0 a0 cap0 es0 w B hB hE hl)
  have hR := hide (fun w B hB hE => rnet_any x0 a0 cap0 es0 w B hB hE hl)
  have hP := hide (fun w B hB hE => pos_any x0 a0 cap0 es0 w B hB hE hl)
  have hQ := hide (fun w B hB hE => rpos_any x0 a0 cap0 es0 w B hB hE hl)
  have hO := hide (fun w xs err hx => out_any x0 x1 a0 cap0 es0 w w.heap.size (Nat.le_refl _) hx hl xs err)
  replace r0 := hide r0
  have qn : (netErr x0 es0 != netErr x0 es0) = false := by simp
  have qp : (posErr x0 es0 != posErr x0 es0) = false := by simp
  go_enter Try.func13, Try.ntmps13
  go_upto_region 1 with fail
  obtain ⟨w0, h0⟩ : ∃ w0, w0 = w.alloc (.cells #[.int .i64 x0, .slice a0 es0.length cap0] 44) := ⟨_, rfl⟩
  have hB0 : Below w.heap.size w w0 := by rw [h0]; exact (by repeat (first | with_reducible exact Below.refl _ _ | with_reducible assumption | with_reducible refine up_drewN ?_ | with_reducible refine up_drew ?_ | (with_reducible refine up_alloc ?_ ?_; rotate_left; (first | omega | (simp <;> omega) | simp)) | (with_reducible refine up_set ?_ ?_; rotate_left; (first | omega | (simp <;> omega) | simp)) | (with_reducible refine Below.trans ?_ (Below.mono (by with_reducible assumption) ?_); rotate_left; (first | omega | (simp <;> omega) | simp))))
  have hs0 : w.heap.size < w0.heap.size := by rw [h0]; simp
  have c0 : w0.cell? ⟨w.heap.size, 0, none⟩ = some (.int .i64 x0) := by rw [h0]; simp [go_sem]
  have c1 : w0.cell? ⟨w.heap.size, 1, none⟩ = some (.slice a0 es0.length cap0) := by rw [h0]; simp [go_sem]
  have hE0 := hide ((r0.out.below hB0 (Nat.le_refl _)).mono (Nat.le_of_lt hs0))
  have key := hide (show ∀ w', Below w0.heap.size w0 w' → (Below w0.heap.size w0 w' ∧ w'.cell? ⟨w.heap.size, 0, none⟩ = some (.int .i64 x0) ∧ w'.cell? ⟨w.heap.size, 1, none⟩ = some (.slice a0 es0.length cap0)) from
    fun w' hb => ⟨hb, (hb.cell (by simpa using hs0)).trans c0, (hb.cell (by simpa using hs0)).trans c1⟩)
  simp only [← h0]
  clear h0 c0 c1
  go_region_held3 (fun w' => Below w0.heap.size w0 w' ∧ w'.cell? ⟨w.heap.size, 0, none⟩ = some (.int .i64 x0) ∧ w'.cell? ⟨w.heap.size, 1, none⟩ = some (.slice a0 es0.length cap0))
    (first | exact key.out _ (below_drew _) | exact key.out _ (by assumption))
    (first | (go_at_call 50; have hb4 := (‹_ ∧ _› : _ ∧ _).1; refine (hC.out _ w0.heap.size (Below.size hb4) (Row.below hE0.out hb4 (Nat.le_refl _))).mono ?_; rintro e w4 ⟨rfl, hb5⟩; have hb6 := below_step hb4 hb5) | (go_at_call 25; have hb7 := (‹_ ∧ _› : _ ∧ _).1; refine (hR.out _ w0.heap.size (Below.size hb7) (Row.below hE0.out hb7 (Nat.le_refl _))).mono ?_; rintro e w5 ⟨rfl, hb8⟩; have hb9 := below_step hb7 hb8) | (go_at_call 51; have hbA := (‹_ ∧ _› : _ ∧ _).1; refine (hP.out _ w0.heap.size (Below.size hbA) (Row.below hE0.out hbA (Nat.le_refl _))).mono ?_; rintro e w6 ⟨rfl, hbB⟩; have hbC := below_step hbA hbB) | (go_at_call 52; have hbD := (‹_ ∧ _› : _ ∧ _).1; refine (hQ.out _ w0.heap.size (Below.size hbD) (Row.below hE0.out hbD (Nat.le_refl _))).mono ?_; rintro e w7 ⟨rfl, hbE⟩; have hbF := below_step hbD hbE))
  clear hb4 hb5 hb6 hb7 hb8 hb9 hbA hbB hbC hbD hbE hC hP hQ
  have a1 := (key.out _ hbF).2.1
  have a2 := (key.out _ hbF).2.2
  have hsF := hbF.size
  go_wp2_with fail
  by_cases h0 : netErr x0 es0 = 0
  · by_cases hv : x1 < 0 ∨ x1 ≥ x0
    · have hRx := fun w B hB hE => hR.out w B hB hE
      rw [h0] at hRx
      replace hR := hide hRx
      refine (hO.out _ [] 1 (hE0.out.below hbF (by omega) |>.mono (by omega)) (.inr (.inl ⟨h0, hv, rfl, rfl⟩))).mono ?_
      rintro e w8 ⟨av, cv, rfl, rl8, hb8x⟩
      replace rl8 := hide rl8
      have hb10 := below_step hbF hb8x
      have b1 := (key.out _ hb10).2.1
      have b2 := (key.out _ hb10).2.2
      go_wp2_with fail
      refine (hR.out _ w0.heap.size hb10.size (hE0.out.below hb10 (Nat.le_refl _))).mono ?_
      rintro e w9 ⟨rfl, hb9x⟩
      have hb11 := below_step hb10 hb9x
      have d1 := (key.out _ hb11).2.1
      have d2 := (key.out _ hb11).2.2
      clear h0 qn qp
      rcases hv with hv | hv
      all_goals
        go_wp2
        all_goals
          go_ret
          exact ⟨rfl, hB0.trans (hb11.mono (by omega))⟩
    · have v0 : 0 ≤ x1 := by omega
      have v1 : x1 < x0 := by omega
      obtain ⟨u, rfl⟩ := Int.eq_ofNat_of_zero_le v0
      have hRx := fun w B hB hE => hR.out w B hB hE
      rw [h0] at hRx
      replace hR := hide hRx
      have hnok := netErr_ok h0
      refine (hO.out _ _ 0 (hE0.out.below hbF (by omega) |>.mono (by omega)) (.inr (.inr ⟨h0, v0, v1, rfl, rfl⟩))).mono ?_
      rintro e w8 ⟨av, cv, rfl, rl8, hb8x⟩
      replace rl8 := hide rl8
      have hb10 := below_step hbF hb8x
      have b1 := (key.out _ hb10).2.1
      have b2 := (key.out _ hb10).2.2
      go_wp2_with fail
      refine (hR.out _ w0.heap.size hb10.size (hE0.out.below hb10 (Nat.le_refl _))).mono ?_
      rintro e w9 ⟨rfl, hb9x⟩
      have hb11 := below_step hb10 hb9x
      have d1 := (key.out _ hb11).2.1
      have d2 := (key.out _ hb11).2.2
      clear h0 qn qp hv
      have n3 := hnok.2.2.1
      clear hnok
      have hs11 := hb11.size
      have rl9 := hide (rl8.out.below hb9x (Nat.le_refl _))
      have hs9 := hb9x.size
      have hol := hide (outIdx_len es0 u es0.length)
      clear rl8 a1 a2 b1 b2 hb10 hb8x hb9x hbF key hO hR
      go_wp2
      go_loopw [8, 56] (fun s8 i wr => ∃ (k : Nat) (ao : Option Addr) (co : Nat), k ≤ es0.length ∧ i = .int .i64 k ∧ s8 = .slice ao (outIdx es0 u k).length co ∧ Hid (Own encI 1 3 wr w9.heap.size (.slice ao (outIdx es0 u k).length co) (outIdx es0 u k)) ∧ Below w9.heap.size w9 wr) (fun _ i _ => es0.length - (intOf i).toNat)
      case atStart => exact ⟨0, none, 0, Nat.zero_le _, rfl, rfl, Own.nil _ _, Below.refl _ _⟩
      case round =>
        obtain ⟨k, ao, co, hk, rfl, rfl, own, hbr⟩ := hrel
        have hsz := hbr.size
        by_cases hlt : k < es0.length
        · obtain ⟨b, o, rfl, hbB, e0, e1, e2⟩ := hE0.out.ed k hlt
          rw [← hb11.cell (by simpa using hbB), ← hbr.cell (by simp; omega)] at e0 e1 e2
          by_cases hu : es0[k].u = (u : Int)
          · have hh := hide (outIdx_hit es0 u k hlt hu)
            have q : (es0[k].u == (u : Int)) = true := by simpa using hu
            have hkl := outIdx_len es0 u k
            clear hu
            go_wp2_with (at_builtin; go_must (refine wpList_push rfl (.tmp 65) (.tmp 67) 24 rfl _ 8 Try.underlying24 info_int rfl (by omega) lenI oneI (outIdx es0 u k).length rfl rfl ((own.out.alloc _).alloc _) ⟨wr.heap.size + 1, 0, none⟩ 1 (k : Int) rfl (newI _ _ _ _ (by simp)) (by omega) (by unfold maxLen; omega) (by simp; omega) ?_; intro g c' w10 own1 hb1 _ hg1 hg2))
            go_roundw
            case rel =>
              refine ⟨k + 1, some ⟨g, 0, none⟩, c', by omega, by go_num, by rw [hh.out]; simp, ?_, hbr.trans (unalloc (unalloc hb1 (by simp; omega)) (by omega))⟩
              rw [hh.out]
              simpa using hide own1
            case measure => simp [intOf]; omega
          · have hh := hide (outIdx_miss es0 u k hlt hu)
            have q : (es0[k].u == (u : Int)) = false := by simpa using hu
            clear hu
            go_wp2
            go_roundw
            case rel =>
              refine ⟨k + 1, ao, co, by omega, by go_num, by rw [hh.out], ?_, up_alloc hbr hsz⟩
              rw [hh.out]
              exact hide (Own.alloc own.out _)
            case measure => simp [intOf]; omega
        · obtain rfl : k = es0.length := by omega
          obtain ⟨a', c', hv, hr, _⟩ := own.out.row lenI
          simp only [Value.slice.injEq] at hv
          obtain ⟨rfl, _, rfl⟩ := hv
          replace hr := hide hr
          clear own
          go_wp2_with fail
          refine (equalI_len av ao cv co (outIdx es0 u es0.length).length _ _ wr w8.heap.size wr.heap.size rfl rfl (rl9.out.below hbr hs9) hr.out (by have := hol.out; omega) true (by simp)).mono ?_
          rintro e w10 ⟨rfl, m, rfl⟩
          go_wp2
          go_ret
          exact ⟨rfl, up_drewN (hB0.trans ((hb11.trans (hbr.mono hs11)).mono (by omega)))⟩
  · have q0 : (netErr x0 es0 != 0) = true := by simp [h0]
    have q1 : (netErr x0 es0 == 0) = false := by simpa using h0
    have q2 : (netErr x0 es0 == netErr x0 es0) = true := by simp
    refine (hO.out _ [] (netErr x0 es0) (hE0.out.below hbF (by omega) |>.mono (by omega)) (.inl ⟨h0, rfl, rfl⟩)).mono ?_
    rintro e w8 ⟨av, cv, rfl, rl8, hb8x⟩
    replace rl8 := hide rl8
    have hb10 := below_step hbF hb8x
    have b1 := (key.out _ hb10).2.1
    have b2 := (key.out _ hb10).2.2
    go_wp2_with fail
    refine (hR.out _ w0.heap.size hb10.size (hE0.out.below hb10 (Nat.le_refl _))).mono ?_
    rintro e w9 ⟨rfl, hb9x⟩
    have hb11 := below_step hb10 hb9x
    have d1 := (key.out _ hb11).2.1
    have d2 := (key.out _ hb11).2.2
    clear h0 qn qp
    go_wp2
    go_ret
    exact ⟨rfl, hB0.trans (hb11.mono (by omega))⟩

set_option maxRecDepth 100000 in
theorem lifted_NetChecks (os : Os) (started : os.Started) (H : Type) (enc : TypeId × Value → H) :
    ReturnsInHanded {} Try.checked os 13 .any (Rows.netChecksSpec.pre6 enc Try.prog Try.f13 Rows.netChecksRow.domain false) (Rows.netChecksSpec.post enc Try.prog Try.f13 false true false false) := by
  refine returnsInHanded_of_change (C := Try.checked) own started (by kernel_rfl) Try.func13
    (ChangeSpec.witness6 (enc := enc) (C := Try.checked) false ⟨#[], #[.agg #[.int .i64 0, .slice none 0 0], .int .i64 0], []⟩ 8 (by kernel_rfl) (by kernel_rfl) (by kernel_rfl) (by kernel_rfl)) ?_
  intro W base args ds gs before hval0 hW hcnd _
  have hval : ∀ (j : Nat) t v, Try.f13.params[j]? = some t → args[j]? = some v → Value.okWide Try.prog W .any base t v := hval0
  have hW' := hW
  obtain ⟨p, q, hA0, hV, rfl, hfz, hnd⟩ := hW
  have hA : DataW.TrodAll enc Try.prog W 0 (fun _ => true) true Try.f13.params.toList args.toList ds p := hA0
  rw [Try.params13] at hA hval
  obtain ⟨v0, vs0, d0, ds0, p0, q0, hargs, rfl, rfl, h0, tr0⟩ := trodAll_cons hA
  obtain ⟨v1, vs1, d1, ds1, p1, q1, rfl, rfl, rfl, h1, tr1⟩ := trodAll_cons tr0
  obtain ⟨rfl, rfl, rfl⟩ := trodAll_nil tr1
  obtain rfl : args = #[v0, v1] := by cases args; simp_all
  obtain ⟨rfl, rfl⟩ := trodVars_none hV
  have k0 := h0
  have lt0 : ∀ x ∈ p0, x.block < W.heap.size := by obtain ⟨m, hm⟩ := k0; exact DataW.trod_lt m _ _ _ hm
  have k1 := h1
  have lt1 : ∀ x ∈ p1, x.block < W.heap.size := by obtain ⟨m, hm⟩ := k1; exact DataW.trod_lt m _ _ _ hm
  obtain ⟨x0, a0, cap0, es0, rfl, b0, l0, m0, r0, be0⟩ := openT_net (P := Try.prog) Try.underlying44 (by kernel_rfl) (by kernel_rfl) Try.underlying3 Try.underlying42 (by kernel_rfl) Try.underlying79 (by kernel_rfl) Try.underlying3 Try.underlying3 Try.underlying3 (hval 0 44 v0 rfl rfl) h0
  obtain ⟨x1, rfl, b1⟩ := openT_int Try.underlying3 (hval 1 3 v1 rfl rfl) h1
  clear hA0 hval0
  refine (walk_NetChecks x0 a0 cap0 es0 x1 W b0 l0 m0 r0 be0 b1).mono fun e W' ⟨he, bel⟩ => ?_
  subst he
  exact ⟨_, rfl, _, _, _, [], _, [], hW', trodAll_mk1 (shut_bool Try.underlying4 _), (trodAll_cons_mk (Below.trod laidOut (by kernel_rfl) (of_decide_eq_true (by kernel_rfl)) k0 bel lt0) (trodAll_cons_mk (Below.trod laidOut (by kernel_rfl) (of_decide_eq_true (by kernel_rfl)) k1 bel lt1) trodAll_mk0)), rfl, bel.frame _, fun h => by cases h⟩

theorem over_NetChecks : Rows.netChecksRow.holds Try.pinned (OpenSpec.ofChange Rows.netChecksSpec) :=
  OpenClaim.holds_of_wide 13 Try.f13 rfl rfl rfl rfl rfl rfl rfl ⟨rfl, rfl, rfl, rfl, rfl⟩ rfl rfl rfl rfl rfl (by kernel_rfl) Try.func13 (by kernel_rfl)
    (of_decide_eq_true (by kernel_rfl)) (by unfold Func.isWrapper; first | (rw [if_pos (by decide +kernel)]; kernel_rfl) | (rw [if_neg (by decide +kernel)]; exact ⟨rfl, rfl⟩))
    (fun os started H enc _ => lifted_NetChecks os started H enc)

/-- The given statement. -/
theorem proved_NetChecks : Rows.NetChecksSaid := over_NetChecks
#print axioms proved_NetChecks

end Go.Proofs.Ytiibhdibeljcjaa
