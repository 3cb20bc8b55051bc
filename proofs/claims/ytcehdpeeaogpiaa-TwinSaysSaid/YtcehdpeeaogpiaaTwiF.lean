/-
  What twin.follow returns: a walk over what is used, that is used no more. Conditions: what is used balances, a right net, bounds.
-/
import Derived.Test.YtcehdpeeaogpiaaTwA
import Derived.Test.YtcehdpeeaogpiaaYenL
import Derived.Test.YtcehdpeeaogpiaaROut
import Derived.Deep.LoopGhost
import Derived.Deep.DeepCutAuto
namespace Go.Proofs.Ytcehdpeeaogpiaa
open Go.RowKit
set_option linter.unusedSimpArgs false
set_option linter.unusedVariables false
theorem own_firstT (w : World) (base : Nat) (e : TypeId) (x : Int) (hb : base ≤ w.heap.size) : Own encI 1 e (w.alloc (.cells #[.int .i64 x] e)) base (.slice (some ⟨w.heap.size, 0, none⟩) 1 1) [x] :=
  ⟨rfl, .inr ⟨w.heap.size, 1, #[.int .i64 x], rfl, hb, heap_alloc_new w _, Nat.le_refl _, by unfold maxLen; decide, rfl, rfl⟩⟩
theorem fi_len {es : List Ed} {U : Nat → Bool} {f a : Nat} {l : List Nat} (h : FI es U f a l) : l.length ≤ es.length := nodup_fits0 _ h.nd (fun i hi => (h.us i hi).1)
theorem sum_bd {es : List Ed} {n : Nat} (hes : Right n es) : ∀ (l : List Nat), (∀ i ∈ l, i < es.length) → -10000 * (l.length : Int) ≤ sumE es l ∧ sumE es l ≤ 10000 * (l.length : Int)
  | [], _ => by simp [sumE]
  | i :: l, h => by
    have ih := sum_bd hes l (fun j hj => h j (List.mem_cons_of_mem _ hj))
    have := hes (edN es i) (edN_mem (h i List.mem_cons_self))
    rw [sumE_cons, List.length_cons]
    omega
theorem sumE_snoc (es : List Ed) (l : List Nat) (k : Nat) : sumE es (l ++ [k]) = sumE es l + (edN es k).c := by
  rw [sumE_app]
  simp [sumE]
theorem ni_snoc {es : List Ed} {n : Nat} (hes : Right n es) (l : List Nat) (f k : Nat) (hk : k < es.length) : NI (plc es f (l ++ [k])) = NI (plc es f l) ++ [(edN es k).v] := by
  have := hes (edN es k) (edN_mem hk)
  rw [plc_eq, plc_eq]
  simp [NI]
  omega
/-- what holds while the walk is followed -/
structure FX (w : World) (br bo : Nat) (es : List Ed) (a : Option Addr) (cap gu cu base : Nat) (V : Nat → Bool) (v : Value) (ps : List Int) (k : Int) (wr : World) : Prop where
  used : Own encB 1 4 wr base (.slice (some ⟨gu, 0, none⟩) es.length cu) (RW es.length V)
  own : Own encI 1 3 wr w.heap.size v ps
  c1 : wr.cell? ⟨w.heap.size, 1, none⟩ = some (.slice a es.length cap)
  p0 : wr.cell? ⟨bo, 0, none⟩ = some v
  p1 : wr.cell? ⟨bo, 1, none⟩ = some (.int .i64 k)
  fp : ∀ o, wr.frozen? ⟨bo, o, none⟩ = false
  q0 : wr.cell? ⟨br, 0, none⟩ = some (.slice none 0 0)
  q1 : wr.cell? ⟨br, 1, none⟩ = some (.int .i64 0)
  fq : ∀ o, wr.frozen? ⟨br, o, none⟩ = false
  keep : Keep (fun k => k = gu) w wr
  lt : gu < w.heap.size
  ne : v.ownBlock ≠ some w.heap.size ∧ v.ownBlock ≠ some br ∧ v.ownBlock ≠ some bo
  at0 : br = w.heap.size + 1 ∧ bo = w.heap.size + 3
namespace FX
section
variable {w : World} {br bo : Nat} {es : List Ed} {a : Option Addr} {cap gu cu base : Nat} {V : Nat → Bool} {v : Value} {ps : List Int} {k : Int} {wr w' : World}
theorem stays (h : FX w br bo es a cap gu cu base V v ps k wr) (hb : Below wr.heap.size wr w') : FX w br bo es a cap gu cu base V v ps k w' :=
  have l1 := cell_lt h.c1
  have l2 := cell_lt h.p0
  have l3 := cell_lt h.q0
  ⟨h.used.stays hb, h.own.stays hb, cu_below hb h.c1 l1, cu_below hb h.p0 l2, cu_below hb h.p1 l2, fun o => fu_below hb (h.fp o) l2, cu_below hb h.q0 l3, cu_below hb h.q1 l3, fun o => fu_below hb (h.fq o) l3, h.keep.trans (Keep.new hb), h.lt, h.ne, h.at0⟩
theorem alloc (h : FX w br bo es a cap gu cu base V v ps k wr) (o : Obj) : FX w br bo es a cap gu cu base V v ps k (wr.alloc o) := h.stays (up_alloc (Below.refl _ _) (Nat.le_refl _))
theorem low (h : FX w br bo es a cap gu cu base V v ps k wr) : w.heap.size < wr.heap.size ∧ br < wr.heap.size ∧ bo < wr.heap.size ∧ gu < wr.heap.size := ⟨cell_lt h.c1, cell_lt h.q0, cell_lt h.p0, h.used.at_base.2⟩
theorem setU (h : FX w br bo es a cap gu cu base V v ps k wr) (i : Nat) (hi : i < es.length) (x : Bool) : FX w br bo es a cap gu cu base (upz V i x) v ps k (wr.setCell ⟨gu, i, none⟩ (.bool x)) := by
  have hl := h.lt
  have hl0 := h.at0
  refine ⟨?_, h.own.elsewhere (fun e => ?_) _, cu_set h.c1 (by simp; omega), cu_set h.p0 (by simp; omega), cu_set h.p1 (by simp; omega), fun o => fu_set (h.fp o), cu_set h.q0 (by simp; omega), cu_set h.q1 (by simp; omega), fun o => fu_set (h.fq o), h.keep.setCell (.inl rfl) _, h.lt, h.ne, h.at0⟩
  · have := h.used.putB i (by rw [rw_len]; exact hi) x
    rwa [rw_set] at this
  · have := (h.own.block_lt _ e).1
    simp only at this
    omega
theorem setK (h : FX w br bo es a cap gu cu base V v ps k wr) (x : Int) : FX w br bo es a cap gu cu base V v ps x (wr.setCell ⟨bo, 1, none⟩ (.int .i64 x)) := by
  have hl := h.lt
  have hl0 := h.at0
  refine ⟨h.used.elsewhere (by simp [Value.ownBlock]; omega) _, h.own.elsewhere h.ne.2.2 _, cu_set h.c1 (by simp <;> omega), cu_set_off h.p0 (by simp), World.cell?_setCell_same _ _ _ h.p1, fun o => fu_set (h.fp o), cu_set h.q0 (by simp <;> omega), cu_set h.q1 (by simp <;> omega), fun o => fu_set (h.fq o), h.keep.setCell (.inr (by simp <;> omega)) _, h.lt, h.ne, h.at0⟩
theorem push (h : FX w br bo es a cap gu cu base V v ps k wr) {o : Obj} {v' : Value} {y : Int} (own : Own encI 1 3 w' w.heap.size v' (ps ++ [y])) (hg : (wr.alloc o).grownBy w' v.ownBlock) (hat : ∀ j, v'.ownBlock = some j → v.ownBlock = some j ∨ wr.heap.size ≤ j) : FX w br bo es a cap gu cu base V v' (ps ++ [y]) k (w'.setCell ⟨bo, 0, none⟩ v') := by
  have hl := h.lt
  have hl0 := h.at0
  obtain ⟨z1, z2, z3, z4⟩ := h.low
  obtain ⟨n1, n2, n3⟩ := h.ne
  have b1 := h.own.block_lt
  have hk : Keep (fun j => v.ownBlock = some j) wr w' := ((Keep.refl _ wr).alloc o).grown hg (fun k hk => .inl hk)
  have nn : ∀ j, v.ownBlock ≠ some j → j < wr.heap.size → v'.ownBlock ≠ some j := fun j h1 h2 e => by
    rcases hat j e with h3 | h3
    · exact h1 h3
    · omega
  refine ⟨(hk.own h.used (fun j hj e => ?_)).elsewhere (by simp [Value.ownBlock]; omega) _, own.elsewhere (nn _ n3 z3) _, cu_set (hk.cu h.c1 n1) (by simp <;> omega), World.cell?_setCell_same _ _ _ (hk.cu h.p0 n3), cu_set_off (hk.cu h.p1 n3) (by simp), fun o => fu_set ((hk.frozen z3 n3).trans (h.fp o)), cu_set (hk.cu h.q0 n2) (by simp <;> omega), cu_set (hk.cu h.q1 n2) (by simp <;> omega), fun o => fu_set ((hk.frozen z2 n2).trans (h.fq o)), ?_, h.lt, ⟨nn _ n1 z1, nn _ n2 z2, nn _ n3 z3⟩, h.at0⟩
  · have := (b1 j e).1
    simp [Value.ownBlock] at hj
    omega
  · exact ((h.keep.alloc o).grown (S := fun k => k = gu) hg (fun j hj => .inr (b1 j hj).1)).setCell (.inr (by simp <;> omega)) _
theorem atU (h : FX w br bo es a cap gu cu base V v ps k wr) (i : Nat) (hi : i < es.length) : wr.cell? ⟨gu, i, none⟩ = some (.bool (V i)) := by
  have := h.used.getB i (by rw [rw_len]; exact hi)
  rwa [rw_get] at this
end
end FX
/-- what follow hands back -/
def FolAns (es : List Ed) (U : Nat → Bool) (f t gu cu base : Nat) (w : World) (e : Ending) (w' : World) : Prop :=
  ∃ (l : List Nat) (av : Option Addr) (m cv : Nat), e = .returned (.agg #[.slice av m cv, .int .i64 (sumE es l)]) ∧ FI es U f t l ∧ Own encI 1 3 w' w.heap.size (.slice av m cv) (NI (plc es f l)) ∧
    Own encB 1 4 w' base (.slice (some ⟨gu, 0, none⟩) es.length cu) (RW es.length (lessU U l)) ∧ Keep (fun k => k = gu) w w'
set_option maxRecDepth 100000 in
set_option maxHeartbeats 4000000 in
theorem follow_any (n : Nat) (a : Option Addr) (cap : Nat) (es : List Ed) (gu cu base : Nat) (U : Nat → Bool) (q : Int) (f t : Nat) (w : World) (B : Nat) (hB : B ≤ w.heap.size) (hE : Row encE 3 w B a es) (hl : es.length ≤ 600) (hes : Right n es) (own : Own encB 1 4 w base (.slice (some ⟨gu, 0, none⟩) es.length cu) (RW es.length U)) (hgu : B ≤ gu)
    (hb : ∀ v, balU es U v = q * (ind f v - ind t v)) (hq : 1 ≤ q) :
    Calls Try.prog 160 #[.agg #[.int .i64 (n : Int), .slice a es.length cap], .slice (some ⟨gu, 0, none⟩) es.length cu, .int .i64 (f : Int), .int .i64 (t : Int)] w (FolAns es U f t gu cu base w) := by
  have hgl := own.at_base
  replace hE := hide hE
  replace hes := hide hes
  replace own := hide own
  replace hb := hide hb
  go_enter Try.func160, Try.ntmps160
  go_wp2_with fail
  obtain ⟨bo, hbo⟩ : ∃ bo, bo = w.heap.size + 1 + 1 + 1 := ⟨_, rfl⟩
  obtain ⟨br, hbr⟩ : ∃ br, br = w.heap.size + 1 := ⟨_, rfl⟩
  obtain ⟨W0, hW0⟩ : ∃ W0, W0 = ((((w.alloc (.cells #[.int .i64 (n : Int), .slice a es.length cap] 24)).alloc (.cells #[.slice none 0 0, .int .i64 0] 36)).alloc (.cells #[.int .i64 (f : Int)] 3)).alloc (.cells #[.slice (some ⟨w.heap.size + 1 + 1, 0, none⟩) 1 1, .int .i64 0] 36)) := ⟨_, rfl⟩
  have hX0 : Hid (FX w br bo es a cap gu cu base U (.slice (some ⟨w.heap.size + 1 + 1, 0, none⟩) 1 1) (NI (plc es f [])) 0 W0) := hide (by
    have ho := own_firstT ((w.alloc (.cells #[.int .i64 (n : Int), .slice a es.length cap] 24)).alloc (.cells #[.slice none 0 0, .int .i64 0] 36)) w.heap.size 3 (f : Int) (by simp; omega)
    simp only [World.size_alloc] at ho
    have hbw : Below w.heap.size w W0 := by rw [hW0]; exact (by repeat (first | with_reducible exact Below.refl _ _ | with_reducible assumption | with_reducible refine up_drewN ?_ | with_reducible refine up_drew ?_ | (with_reducible refine up_alloc ?_ ?_; rotate_left; (first | omega | (simp <;> omega) | simp)) | (with_reducible refine up_set ?_ ?_; rotate_left; (first | omega | (simp <;> omega) | simp)) | (with_reducible refine Below.trans ?_ (Below.mono (by with_reducible assumption) ?_); rotate_left; (first | omega | (simp <;> omega) | simp))))
    subst hbr hbo
    refine ⟨own.out.stays hbw, by rw [hW0]; exact ho.alloc _, by rw [hW0]; simp [go_sem], by rw [hW0]; simp [go_sem], by rw [hW0]; simp [go_sem], fun o => by rw [hW0]; simp [go_sem], by rw [hW0]; simp [go_sem], by rw [hW0]; simp [go_sem], fun o => by rw [hW0]; simp [go_sem], Keep.new hbw, hgl.2, by simp [Value.ownBlock]; omega, rfl, rfl⟩)
  simp only [← hW0]
  simp only [← hbo]
  simp only [← hbr]
  replace hW0 := hide hW0
  have hbo' := hide hbo
  have hbr' := hide hbr
  have hob : br = w.heap.size + 1 := hbr
  replace hob := hide hob
  clear hbo hbr own
  go_loopg [10] (es.length + 1) (fun gk s10 wr => ∃ (l : List Nat) (at' : Nat) (av : Option Addr) (m cv : Nat), s10 = .int .i64 (at' : Int) ∧ Hid (FI es U f at' l) ∧ Hid (FX w br bo es a cap gu cu base (lessU U l) (.slice av m cv) (NI (plc es f l)) (sumE es l) wr) ∧ es.length + 1 ≤ gk + l.length ∧ Hid (m = l.length + 1))
  case atStart => exact ⟨[], f, _, _, _, rfl, hide (fi_start es U f), by rw [lessU_nil]; exact hX0, by simp, hide rfl⟩
  case round =>
    clear hX0 hW0
    obtain ⟨l, at', av, m, cv, rfl, hF, hX, hgk, hm⟩ := hrel
    have hfl := fi_len hF.out
    have hxo := hX.out
    by_cases hat : at' = t
    · subst hat
      have q1 : ((at' : Int) != (at' : Int)) = false := by simp
      have p0 := hxo.p0
      have p1 := hxo.p1
      have q0 := hxo.q0
      have q2 := hxo.q1
      have fq := hxo.fq
      obtain ⟨z1, z2, z3, z4⟩ := hxo.low
      have hfin := hide (show Own encI 1 3 ((wr.setCell ⟨br, 0, none⟩ (.slice av m cv)).setCell ⟨br, 1, none⟩ (.int .i64 (sumE es l))) w.heap.size (.slice av m cv) (NI (plc es f l)) ∧ Own encB 1 4 ((wr.setCell ⟨br, 0, none⟩ (.slice av m cv)).setCell ⟨br, 1, none⟩ (.int .i64 (sumE es l))) base (.slice (some ⟨gu, 0, none⟩) es.length cu) (RW es.length (lessU U l)) ∧ Keep (fun k => k = gu) w ((wr.setCell ⟨br, 0, none⟩ (.slice av m cv)).setCell ⟨br, 1, none⟩ (.int .i64 (sumE es l))) from by
        have h1 := hxo.at0
        have h2 := hxo.lt
        refine ⟨(hxo.own.elsewhere hxo.ne.2.1 _).elsewhere hxo.ne.2.1 _, (hxo.used.elsewhere (by simp [Value.ownBlock]; omega) _).elsewhere (by simp [Value.ownBlock]; omega) _, (hxo.keep.setCell (.inr (by simp; omega)) _).setCell (.inr (by simp; omega)) _⟩)
      clear hxo
      go_wp2
      refine bodyPost_ret (v := .agg #[.slice av m cv, .int .i64 (sumE es l)]) (by simp [results, Try.results160, go_sem, q0, q2, z2]) rfl ?_
      exact ⟨l, av, m, cv, rfl, hF.out, hfin.out.1, hfin.out.2.1, hfin.out.2.2⟩
    · have q1 : ((at' : Int) != (t : Int)) = true := by simp; omega
      have hnx := hide (fi_next hF.out hq hb.out hat)
      have c1 := hxo.c1
      obtain ⟨z1, z2, z3, z4⟩ := hxo.low
      clear hxo
      obtain ⟨gq, rfl⟩ : ∃ gq : Nat, gq = gk := ⟨_, rfl⟩
      obtain ⟨wo, rfl⟩ : ∃ wo : World, wo = wr := ⟨_, rfl⟩
      go_wp2_with fail
      clear c1 z1 z2 z3 z4
      go_loopg [10, 23] (es.length + 1) (fun gk s10 s23 wr => ∃ (k : Nat), k ≤ es.length ∧ s23 = .int .i64 (k : Int) ∧ s10 = .int .i64 (at' : Int) ∧ Hid (FX w br bo es a cap gu cu base (lessU U l) (.slice av m cv) (NI (plc es f l)) (sumE es l) wr) ∧ Hid (∀ j, j < k → ¬ (lessU U l j = true ∧ eu es j = at')) ∧ k + gk = es.length + 1)
      case atStart => exact ⟨0, Nat.zero_le _, rfl, rfl, hX, hide (fun j hj => absurd hj (by omega)), by omega⟩
      case round =>
        clear hX
        obtain ⟨k, hk, rfl, rfl, hX, hno, hgk2⟩ := hrel
        by_cases hlt : k < es.length
        · obtain ⟨b, o, rfl, hbB, d0, d1, d2⟩ := hE.out.ed k hlt
          have hex : es[k] = edN es k := by unfold edN; rw [List.getD, List.getElem?_eq_getElem hlt]; rfl
          rw [hex] at d0 d1 d2
          have hrr := hes.out (edN es k) (edN_mem hlt)
          have hxo := hX.out
          have hkp := hxo.keep
          have d0 := hkp.cu d0 (by simp; omega)
          have d1 := hkp.cu d1 (by simp; omega)
          have d2 := hkp.cu d2 (by simp; omega)
          have u0 := hxo.atU k hlt
          have c1 := hxo.c1
          obtain ⟨z1, z2, z3, z4⟩ := hxo.low
          have hbz : b < wr.heap.size := cell_lt d0
          obtain ⟨⟨xu, xv, xc⟩, hxe⟩ : ∃ xe, xe = edN es k := ⟨_, rfl⟩
          rw [← hxe] at d0 d1 d2 hrr
          simp only at d0 d1 d2 hrr
          obtain ⟨uu, rfl⟩ := Int.eq_ofNat_of_zero_le hrr.1
          obtain ⟨vv, rfl⟩ := Int.eq_ofNat_of_zero_le hrr.2.2.1
          have heu : Hid (eu es k = uu) := hide (by unfold eu; rw [← hxe]; simp)
          have hev : Hid (ev es k = vv) := hide (by unfold ev; rw [← hxe]; simp)
          have hX1 := hide (hxo.alloc (.cells #[.int .i64 (uu : Int), .int .i64 (vv : Int), .int .i64 xc] 34))
          have ik : (0 : Int) ≤ (k : Int) ∧ (k : Int) < (es.length : Int) := by omega
          have hsb := sum_bd hes.out l (fun i hi => (hF.out.us i hi).1)
          have hF2 := hide (fun h1 h2 => fi_step hF.out hlt h1 h2)
          have hss := hide (sumE_snoc es l k)
          have hns := hide (ni_snoc hes.out l f k hlt)
          have hls := hide (lessU_snoc U l k)
          obtain ⟨bb, hbb⟩ : ∃ bb, bb = lessU U l k := ⟨_, rfl⟩
          rw [← hbb] at u0
          rw [← hxe] at hss hns
          simp only at hss hns
          replace hxe := hide hxe
          clear hxo hkp hex
          by_cases hyes : bb = true ∧ uu = at'
          · obtain ⟨rfl, rfl⟩ := hyes
            replace hbb := hide hbb
            have hF3 := hide (hF2.out hbb.out.symm heu.out)
            rw [hev.out] at hF3
            have q2 : ((uu : Int) == (uu : Int)) = true := by simp
            have hwc : IntKind.i64.wrap (sumE es l + xc) = sumE es l + xc := by rw [IntKind.wrap_i64]; omega
            obtain ⟨K, hK⟩ : ∃ K, K = sumE es l := ⟨_, rfl⟩
            rw [← hK] at hX1 hsb hss hwc
            replace hK := hide hK
            go_upto_region 8 with fail
            obtain ⟨be, hbe⟩ : ∃ be, be = wr.heap.size := ⟨_, rfl⟩
            obtain ⟨w4, h4⟩ : ∃ w4, w4 = wr.alloc (.cells #[.int .i64 (uu : Int), .int .i64 (vv : Int), .int .i64 xc] 34) := ⟨_, rfl⟩
            have e1 : w4.cell? ⟨be, 1, none⟩ = some (.int .i64 (vv : Int)) := by rw [h4, hbe]; simp [go_sem]
            have e2 : w4.cell? ⟨be, 2, none⟩ = some (.int .i64 xc) := by rw [h4, hbe]; simp [go_sem]
            rw [← h4] at hX1
            simp only [← h4]
            simp only [← hbe]
            have hge : gu < be ∧ br < be ∧ bo < be ∧ be < w4.heap.size ∧ gu < bo ∧ w.heap.size < be := by
              have := hbo'.out
              have := hob.out
              rw [h4]; simp; omega
            replace h4 := hide h4
            replace hbe := hide hbe
            have u0 := hX1.out.atU k hlt
            rw [← hbb.out] at u0
            have p1 := hX1.out.p1
            have fp := hX1.out.fp
            have fu := hX1.out.used.free
            have hX2 := (hX1.out.setU k hlt false).setK (K + xc)
            rw [hls.out] at hX2
            replace hX2 := hide hX2
            have hap := hide (show (Value.slice av m cv).ownBlock ≠ some bo from hX2.out.ne.2.2)
            clear hX hX1 d0 d1 d2 c1 z1 z2 z3 z4 hbz
            go_upto_region 11 with fail
            obtain ⟨w6, h6⟩ : ∃ w6, w6 = (w4.setCell ⟨gu, k, none⟩ (.bool false)).setCell ⟨bo, 1, none⟩ (.int .i64 (K + xc)) := ⟨_, rfl⟩
            rw [← h6] at hX2
            simp only [← h6]
            have hz6 : w4.heap.size = w6.heap.size := by rw [h6]; simp
            replace h6 := hide h6
            have z1 := hX2.out.p0
            have z2 := hX2.out.fp
            have hzo : bo < w6.heap.size := cell_lt z1
            have hl1 := hide (show (NI (plc es f l)).length = m by rw [ni_len, plc_eq, hm.out]; simp)
            have hml : m ≤ 601 := by have := hm.out; omega
            have hwz : w.heap.size < w6.heap.size := by omega
            clear u0 p1 fp fu e1 e2
            go_wp2_with (at_builtin; (refine wpList_pushL (e := 3) (enc := encI) (xs := NI (plc es f l)) (v := .slice av (m) cv) (base := w.heap.size) rfl (.tmp 50) (.tmp 52) 29 rfl _ 8 Try.underlying29 info_int rfl ?d11 lenI oneI (m) ?d21 ?d31 ?d41 ⟨w6.heap.size, 0, none⟩ 1 (vv : Int) ?d51 ?d61 ?d71 ?d81 ?d91 ?_); (case d11 => omega); (case d21 => exact hl1.out); (case d31 => rfl); (case d41 => exact (hX2.out.own.alloc _)); (case d51 => rfl); (case d61 => exact newI _ _ _ _ rfl); (case d71 => omega); (case d81 => unfold maxLen; omega); (case d91 => first | omega | (simp; done) | (simp; omega)); intro g1 c1 w1 own1 hb1 hgr1 hat1 hgl1; have hk9 := hgr1.cell (a := ⟨bo, 0, none⟩) (v := .slice av m cv) (cu_alloc z1) (fun e => hap.out e.symm); have hf9 := (hgr1.frozen_far ⟨bo, 0, none⟩ (by simp; omega) (fun e => hap.out e.symm)).trans (fu_alloc (z2 0)); replace own1 := hide own1; replace hb1 := hide hb1; replace hgr1 := hide hgr1; replace hat1 := hide hat1)
            have hX3 := hide (hX2.out.push own1.out hgr1.out (fun b hb => by simp only [Value.ownBlock, Option.some.injEq] at hb; subst hb; rcases hat1.out with h | h; exact .inl h; right; rw [h]; simp))
            go_roundg (gq - 1)
            case measure => omega
            case rel => exact ⟨l ++ [k], vv, _, _, _, rfl, hF3, by rw [hss.out, hns.out, hK.out]; rw [hK.out] at hX3; exact hX3, by simp; omega, hide (by have := hm.out; simp; omega)⟩
          · have hno2 := hide (show ∀ j, j < k + 1 → ¬ (lessU U l j = true ∧ eu es j = at') from fun j hj => by
              rcases Nat.lt_or_ge j k with h | h
              · exact hno.out j h
              · obtain rfl : j = k := by omega
                rw [← hbb, heu.out]
                exact hyes)
            replace hbb := hide hbb
            cases bb with
            | false =>
              clear hyes
              go_wp2
              go_roundg (gk - 1)
              case measure => omega
              case rel => exact ⟨k + 1, by omega, by go_num, rfl, hX1, hno2, by omega⟩
            | true =>
              have hne : uu ≠ at' := fun e => hyes ⟨rfl, e⟩
              have q2 : ((uu : Int) == (at' : Int)) = false := by simp; omega
              replace hne := hide hne
              clear hyes
              go_wp2
              go_roundg (gk - 1)
              case measure => omega
              case rel => exact ⟨k + 1, by omega, by go_num, rfl, hX1, hno2, by omega⟩
        · exfalso
          obtain ⟨i, h1, h2, h3⟩ := hnx.out
          exact hno.out i (by omega) ⟨h2, h3⟩
end Go.Proofs.Ytcehdpeeaogpiaa
