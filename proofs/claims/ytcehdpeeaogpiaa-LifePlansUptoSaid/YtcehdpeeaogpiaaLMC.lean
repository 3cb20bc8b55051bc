/-
  Several texts in one:
  A plan (life): what Way returns. Conditions: the object reads as LX says, the tables stand beside it.
  Plans (life) as objects that own what they made: what a call of one does, and that it leaves all else alone. Conditions: stated with each.
-/
import Derived.Test.YtcehdpeeaogpiaaLMB
import Derived.Test.YtcehdpeeaogpiaaPushAll
import Derived.Test.YtcehdpeeaogpiaaRowS
import Derived.Deep.RegionLaw
import Derived.Test.YtcehdpeeaogpiaaFlat
/-! A plan (life): what Way returns. Conditions: the object reads as LX says, the tables stand beside it. -/
namespace Go.Proofs.Ytcehdpeeaogpiaa
open Go.RowKit
set_option linter.unusedSimpArgs false
set_option linter.unusedVariables false
/-- what holds while a way is turned round: wo the world ahead of its place -/
structure LzI (wo : World) (cost : Int) (v : Value) (xs : List Int) (wr : World) : Prop where
  o0 : wr.cell? ⟨wo.heap.size, 0, none⟩ = some v
  o1 : wr.cell? ⟨wo.heap.size, 1, none⟩ = some (.int .i64 cost)
  fo : wr.frozen? ⟨wo.heap.size, 0, none⟩ = false
  own : Own encI 1 3 wr (wo.heap.size + 1) v xs
  bel : Below wo.heap.size wo wr
section
variable {wo wr w' : World} {cost : Int} {v : Value} {xs : List Int}
theorem LzI.lt (h : LzI wo cost v xs wr) : wo.heap.size < wr.heap.size := cell_lt h.o0
theorem LzI.stays (h : LzI wo cost v xs wr) (b : Below wr.heap.size wr w') : LzI wo cost v xs w' :=
  ⟨cu_below b h.o0 (cell_lt h.o0), cu_below b h.o1 (cell_lt h.o1), fu_below b h.fo (cell_lt h.o0), h.own.stays b, h.bel.trans (b.mono h.bel.size)⟩
theorem LzI.ap (h : LzI wo cost v xs wr) : v.ownBlock ≠ some wo.heap.size := fun e => by
  have := (h.own.block_lt _ e).1
  omega
theorem LzI.grew (h : LzI wo cost v xs wr) {v' : Value} {xs' : List Int} (own' : Own encI 1 3 w' (wo.heap.size + 1) v' xs') (hg : wr.grownBy w' v.ownBlock) : LzI wo cost v' xs' (w'.setCell ⟨wo.heap.size, 0, none⟩ v') := by
  have hl := h.lt
  have hap := h.ap
  refine ⟨World.cell?_setCell_same _ _ _ (hg.cell h.o0 (fun e => hap e.symm)), cu_set_off (hg.cell h.o1 (fun e => hap e.symm)) (by omega), fu_set ((hg.frozen_far ⟨wo.heap.size, 0, none⟩ (by simp; omega) (fun e => hap e.symm)).trans h.fo), own'.elsewhere (fun e => by have := (own'.block_lt wo.heap.size e).1; omega) _, ?_⟩
  refine Below.setCell (h.bel.grown hg h.bel.size (fun k hk => by have := (h.own.block_lt k hk).1; omega)) ?_ _
  simp
end
/-- edge number k of those that lead to v is on the way -/
def Mt (c : Nat → Int) (es : List Ed) (v k : Nat) : Prop := ∃ e, (todoOf (es.map flip) v 0)[k]? = some e ∧ c e.v < FAR ∧ c e.v + e.c = c v
theorem mt_is {c : Nat → Int} {es : List Ed} {u j i x : Nat} (h : j < (outIdx (es.map flip) u (es.map flip).length).length) (hx : (outIdx (es.map flip) u (es.map flip).length)[j] = (i : Int)) (hi : i < es.length) (hv : es[i].v = (u : Int)) (hu : es[i].u = (x : Int)) : Mt c es u j ↔ c x < FAR ∧ c x + es[i].c = c u := by
  have hl : j < (todoOf (es.map flip) u 0).length := by simpa [todoOf] using h
  have he : (todoOf (es.map flip) u 0)[j]? = some ⟨u, x, es[i].c⟩ := by
    rw [List.getElem?_eq_getElem hl]
    simp only [todoOf, List.drop_zero, List.getElem_map]
    rw [hx]
    have := edAt_is (es := es.map flip) (i := i) (u := u) (v := x) (by simpa using hi) (by simp [flip, hv]) (by simp [flip, hu])
    simpa [flip] using this
  constructor
  · rintro ⟨e, h1, h2⟩
    rw [he] at h1
    cases h1
    exact h2
  · exact fun h2 => ⟨_, he, h2⟩
theorem mt_some {n : Nat} {c : Nat → Int} {es : List Ed} {v : Nat} (hR : Right n es) (hE : LEd n (nes es)) {e : NE} (he : e ∈ nes es) (hv : e.v = v) (hq : c e.u + e.c = c v) (hF : c v ≤ FAR) : ∃ k, k < (outIdx (es.map flip) v (es.map flip).length).length ∧ Mt c es v k := by
  have h1 : neFlip e ∈ todoOf (es.map flip) v 0 := by
    rw [todo_filter (flip_right hR), nes_flip, List.mem_filter]
    exact ⟨List.mem_map.2 ⟨e, he, rfl⟩, by simp [neFlip, hv]⟩
  obtain ⟨k, hk, h2⟩ := List.getElem_of_mem h1
  refine ⟨k, by simpa [todoOf] using hk, neFlip e, by rw [List.getElem?_eq_getElem hk, h2], ?_, hq⟩
  have := (hE e he).2.2.1
  show c e.u < FAR
  omega
theorem lp_app (a : List Nat) (x : Nat) : LP (a ++ [x]) = LP a ++ [(x : Int)] := by simp [LP]
theorem lp_rev (l : List Nat) : LP l.reverse = (LP l).reverse := by simp [LP]
theorem lp_length (l : List Nat) : (LP l).length = l.length := by simp [LP]
theorem rev_take {xs : List Int} {j k : Nat} (hjk : j + 1 + k = xs.length) (h : j < xs.reverse.length) : xs.take (k + 1) = xs.take k ++ [xs.reverse[j]] := by
  rw [List.take_succ_eq_append_getElem (by omega : k < xs.length)]
  congr 2
  rw [List.getElem_reverse]
  congr 1
  omega
/-- a way and the plan behind it -/
def LWayIs (n s t : Nat) (es : List Ed) (c : Nat → Int) (w0 : World) (e : Ending) (w' : World) : Prop :=
  (c t = FAR ∧ e = .returned (.tuple #[.agg #[.slice none 0 0, .int .i64 0], .int .i64 5])) ∨ (c t < FAR ∧ c s = 0 ∧ ∃ (p : List Nat) (a : Option Addr) (k : Nat), LCh es c (s :: p) ∧ (s :: p).getLast (by simp) = t ∧ (∀ x ∈ s :: p, x < n) ∧ e = .returned (.tuple #[.agg #[.slice a (p.length + 1) k, .int .i64 (c t)], .int .i64 0]) ∧ Own encI 1 3 w' w0.heap.size (.slice a (p.length + 1) k) (LP (s :: p)))
section
variable [LFr]
variable {n pb gc gl gh cc cl I O : Nat} {es : List Ed} {a0 : Option Addr} {q qc : Nat} {f : Nat → Ed} {c l : Nat → Int} {wk : Nat} {wS w : World}
/-- what is no block of its own is written -/
theorem LX.frame {ev : Value} {fr tg : Int} {v : Value} {wr w' : World} (h : LX n pb gc gl gh cc cl I O ev fr tg es v q f c l wk wS wr) {T : Nat → Prop} (kp : Keep T wr w') (hT : ∀ j, T j → wS.heap.size ≤ j ∧ v.ownBlock ≠ some j ∧ LFr.w0.heap.size ≤ j) : LX n pb gc gl gh cc cl I O ev fr tg es v q f c l wk wS w' :=
  h.rebase kp (fun j hj ht => by
    rcases hj with hj | hj
    · have := h.own_lt hj; have := (hT j ht).1; omega
    · exact (hT j ht).2.1 hj) rfl (h.keep.trans2 kp (fun j hj => .inr (hT j hj).1)) (h.nf.keep kp (fun j hj => .inr (hT j hj).2.2) (fun j hj => .inl hj))
/-- what Way leaves -/
def LWayAns [LFr] (n pb gc gl gh cc cl I O : Nat) (ev : Value) (s t : Nat) (es : List Ed) (v0 : Value) (q : Nat) (c l : Nat → Int) (wS w0 : World) (e : Ending) (w' : World) : Prop :=
  ∃ a1 q1 k1 f1 c1 l1 wk1, LX n pb gc gl gh cc cl I O ev (s : Int) (t : Int) es (.slice a1 q1 k1) q1 f1 c1 l1 wk1 wS w' ∧ LOk n s (nes es) c1 l1 (fun _ => False) ∧ LHas n s c1 l1 (fun _ => False) (RW q1 f1) ∧ HeapOK spLt q1 f1 ∧ LExit n c1 l1 t ∧ wk1 ≤ 2 * n ∧ q1 ≤ q + 601 * wk1 ∧ (LExit n c l t → wk1 = 0 ∧ c1 = c ∧ l1 = l) ∧ Keep (fun j => LXb pb gc gl gh ev j ∨ v0.ownBlock = some j) w0 w' ∧ (∀ j, (Value.slice a1 q1 k1).ownBlock = some j → v0.ownBlock = some j ∨ w0.heap.size ≤ j) ∧ LWayIs n s t es c1 w0 e w'
set_option maxRecDepth 100000 in
set_option maxHeartbeats 8000000 in
theorem lway_any (lo1 hi1 lo2 hi2 s t m ec : Nat) (ae : Option Addr) (hs : s < n) (ht : t < n) (hm : es.length = m) (hX : LX n pb gc gl gh cc cl I O (.slice ae m ec) (s : Int) (t : Int) es (.slice a0 q qc) q f c l wk wS w) (hT : LTab wS lo1 hi1 lo2 hi2 n pb gc gl gh I O (.slice ae m ec) es) (hR : Right n es) (hp : ∀ e ∈ es, 1 ≤ e.c) (hm6 : m ≤ 600) (hn : n ≤ 64) (hq : q ≤ 99990000000) (hok : HeapOK spLt q f) (hL : LOk n s (nes es) c l (fun _ => False)) (hhs : LHas n s c l (fun _ => False) (RW q f)) :
    Calls Try.prog 49 #[.pointer (some ⟨pb, 0, none⟩)] w (LWayAns n pb gc gl gh cc cl I O (.slice ae m ec) s t es (.slice a0 q qc) q c l wS w) := by
  have hE := hide (led_of hR hp)
  obtain ⟨w1, hw1⟩ : ∃ w1, w1 = w.alloc (.cells #[.slice none 0 0, .int .i64 0] 36) := ⟨_, rfl⟩
  have hb1 : Below w.heap.size w w1 := by rw [hw1]; exact up_alloc (Below.refl _ _) (Nat.le_refl _)
  have r0 : w1.cell? ⟨w.heap.size, 0, none⟩ = some (.slice none 0 0) := by rw [hw1]; simp [go_sem]
  have r1 : w1.cell? ⟨w.heap.size, 1, none⟩ = some (.int .i64 0) := by rw [hw1]; simp [go_sem]
  have rf0 : w1.frozen? ⟨w.heap.size, 0, none⟩ = false := by rw [hw1]; simp [go_sem]
  have rf1 : w1.frozen? ⟨w.heap.size, 1, none⟩ = false := by rw [hw1]; simp [go_sem]
  have hX1 := hX.stays hb1
  have hSt := hide (lsettle_own (J := ‹LFr›) lo1 hi1 lo2 hi2 s t m ec ae hs ht hm hX1 hT hR hp hm6 hn hq hok hL hhs)
  obtain ⟨A, hA⟩ : ∃ A : Nat → Prop, A = fun j => LXb pb gc gl gh (.slice ae m ec) j ∨ (Value.slice a0 q qc).ownBlock = some j := ⟨_, rfl⟩
  have hAlt : ∀ j, A j → j < w.heap.size := fun j hj => by
    rw [hA] at hj
    rcases hj with h | h
    · have := hX.own_lt h; have := hX.big; omega
    · exact (hX.heap.own.block_lt j h).2
  have hAr : ¬ A w.heap.size := fun h => by have := hAlt _ h; omega
  replace hAlt := hide hAlt
  replace hb1 := hide hb1
  replace hm := hide hm
  replace hT := hide hT
  replace hR := hide hR
  replace hp := hide hp
  have hbgS := hX.big
  have hbgW := hX.nf.1.size
  have hfin := hide (fun (e : Ending) (w' : World) h => (show LWayAns n pb gc gl gh cc cl I O (.slice ae m ec) s t es (.slice a0 q qc) q c l wS w e w' from h))
  clear hX hX1 hok hL hhs
  go_enter Try.func49, Try.ntmps49
  go_upto_region 1 with fail
  simp only [← hw1]
  replace hw1 := hide hw1
  go_wp2_with fail
  refine hSt.out.mono ?_
  rintro e w2 ⟨rfl, kpS, a1, q1, k1, f1, c1, l1, wk1, hX2, hbl, g1, g2, g3, g4, g5, g6, g7⟩
  rw [← hA] at kpS
  have r0 := kpS.cu r0 hAr
  have r1 := kpS.cu r1 hAr
  have rf0 := (kpS.frozen (p := ⟨w.heap.size, 0, none⟩) (by rw [hw1.out]; simp) hAr).trans rf0
  have rf1 := (kpS.frozen (p := ⟨w.heap.size, 1, none⟩) (by rw [hw1.out]; simp) hAr).trans rf1
  have zr := cell_lt r0
  simp only at zr
  have kpA := hide ((Keep.new (S := A) hb1.out).trans kpS)
  have c5 := hX2.c5
  have c6 := hX2.c6
  have d0 := hX2.cost.atI t ht
  have itt : (0 : Int) ≤ (t : Int) ∧ (t : Int) < (n : Int) := by omega
  have zb := cell_lt c5
  have zc := cell_lt d0
  simp only at zb zc
  obtain ⟨ct, hct⟩ : ∃ x, x = c1 t := ⟨_, rfl⟩
  rw [← hct] at d0
  have hcb := g1.cb
  have hctb : 0 ≤ ct ∧ ct ≤ 1099511627776 := by rw [hct]; exact hcb t ht
  have hX3 := hide (fun k => hX2.stays (up_drewN (n := k) (Below.refl _ _)))
  have hkeep3 := hide (fun k => kpA.out.trans (Keep.new (S := A) (up_drewN (n := k) (Below.refl w2.heap.size w2))))
  replace g2 := hide g2
  replace g3 := hide g3
  replace g4 := hide g4
  replace g7 := hide g7
  replace hct := hide hct
  replace hcb := hide hcb
  have g1 := hide g1
  have hbg0 : wS.heap.size ≤ w.heap.size := hbgS
  have hbg1 : LFr.w0.heap.size ≤ w.heap.size := hbgW
  have hvb := hide (show ∀ j, (Value.slice a1 q1 k1).ownBlock = some j → j ≠ w.heap.size from fun j hj e => by
    rcases hbl j hj with h | h
    · have h9 : A j := by rw [hA]; exact .inr h
      have := hAlt.out j h9
      omega
    · rw [hw1.out] at h; simp at h; omega)
  replace hbl := hide (show ∀ j, (Value.slice a1 q1 k1).ownBlock = some j → (Value.slice a0 q qc).ownBlock = some j ∨ w.heap.size ≤ j from fun j hj => (hbl j hj).imp id (fun h => by rw [hw1.out] at h; simp at h; omega))
  clear hSt kpS kpA hX2
  by_cases hF : ct = 1099511627776
  · subst hF
    have q0 : (1099511627776 : Int) ≤ 1099511627776 := by omega
    go_wp2
    go_quiet (fail)
    have hX4 := hide (hX3.out nq)
    have hk4 := hide (hkeep3.out nq)
    have r0 : (w2.drewN nq).cell? ⟨w.heap.size, 0, none⟩ = _ := cu_drewN r0
    have r1 : (w2.drewN nq).cell? ⟨w.heap.size, 1, none⟩ = _ := cu_drewN r1
    have rf0 : (w2.drewN nq).frozen? ⟨w.heap.size, 0, none⟩ = false := fu_drewN rf0
    have rf1 : (w2.drewN nq).frozen? ⟨w.heap.size, 1, none⟩ = false := fu_drewN rf1
    have zr : w.heap.size < (w2.drewN nq).heap.size := zr
    generalize w2.drewN nq = w5 at hX4 hk4 r0 r1 rf0 rf1 zr ⊢
    have hkp := (((Keep.refl (fun j => j = w.heap.size) w5).setCell (p := ⟨w.heap.size, 0, none⟩) (.inl rfl) (.slice none 0 0)).setCell (p := ⟨w.heap.size, 1, none⟩) (.inl rfl) (.int .i64 0))
    have hX6 := hide (hX4.out.frame hkp (fun j hj => by subst hj; exact ⟨hbg0, fun e => hvb.out _ e rfl, hbg1⟩))
    have hk6 := hide ((hk4.out.setCell (p := ⟨w.heap.size, 0, none⟩) (.inr (Nat.le_refl _)) (.slice none 0 0)).setCell (p := ⟨w.heap.size, 1, none⟩) (.inr (Nat.le_refl _)) (.int .i64 0))
    clear hkp hX3 hkeep3
    go_wp2
    refine bodyPost_ret (v := .tuple #[.agg #[.slice none 0 0, .int .i64 0], .int .i64 5]) (by simp [results, Try.results49, go_sem, r0, r1, zr]) rfl ?_
    exact hfin.out _ _ ⟨a1, q1, k1, f1, c1, l1, wk1, hX6.out, g1.out, g2.out, g3.out, g4.out, g5, g6, g7.out, by rw [← hA]; exact hk6.out, hbl.out, .inl ⟨hct.out.symm, rfl⟩⟩
  · have hlt : ct < 1099511627776 := by omega
    have q0 : ¬ (1099511627776 : Int) ≤ ct := by omega
    go_wp2
    go_quiet (fail)
    have hX4 := hide (hX3.out nq)
    have hk4 := hide (hkeep3.out nq)
    have r0 : (w2.drewN nq).cell? ⟨w.heap.size, 0, none⟩ = _ := cu_drewN r0
    have r1 : (w2.drewN nq).cell? ⟨w.heap.size, 1, none⟩ = _ := cu_drewN r1
    have rf0 : (w2.drewN nq).frozen? ⟨w.heap.size, 0, none⟩ = false := fu_drewN rf0
    have rf1 : (w2.drewN nq).frozen? ⟨w.heap.size, 1, none⟩ = false := fu_drewN rf1
    have zr : w.heap.size < (w2.drewN nq).heap.size := zr
    have c5 : (w2.drewN nq).cell? ⟨pb, 5, none⟩ = _ := cu_drewN c5
    have zb : pb < (w2.drewN nq).heap.size := zb
    generalize w2.drewN nq = wq at hX4 hk4 r0 r1 rf0 rf1 zr c5 zb ⊢
    clear hX3 hkeep3 c6 d0 zc
    have hLX := hX4.out.keep
    have own1 := hide (own_one wq wq.heap.size 3 (t : Int) (Nat.le_refl _))
    have hb0 := hide (up_alloc (o := .cells #[.int .i64 (t : Int)] 3) (Below.refl wq.heap.size wq) (Nat.le_refl _))
    go_upto_region 5 with fail
    have c5' := cu_alloc (o := .cells #[.int .i64 (t : Int)] 3) c5
    have zb' : pb < (wq.alloc (.cells #[.int .i64 (t : Int)] 3)).heap.size := by simp; omega
    clear c5 zb
    generalize wq.alloc (.cells #[.int .i64 (t : Int)] 3) = w6 at own1 hb0 c5' zb' ⊢
    have hstart := hide (show c1 t = l1 t ∧ c1 t ≤ c1 t from ⟨g4.out.1, Int.le_refl _⟩)
    have hZq : wq.heap.size ≤ wq.heap.size := Nat.le_refl _
    go_wp2
    go_loopg [4, 5] ((c1 t).toNat + 1) (fun gk s4 s5 wr => ∃ (v : Nat) (p : List Nat) (g k : Nat), s5 = .int .i64 (v : Int) ∧ s4 = .slice (some ⟨g, 0, none⟩) (p.length + 1) k ∧ Hid (Own encI 1 3 wr wq.heap.size (.slice (some ⟨g, 0, none⟩) (p.length + 1) k) (LP (v :: p).reverse)) ∧ Hid (LCh es c1 (v :: p)) ∧ Hid ((v :: p).getLast (by simp) = t) ∧ Hid (∀ x ∈ v :: p, x < n) ∧ Hid (c1 v = l1 v ∧ c1 v ≤ c1 t) ∧ (c1 v).toNat < gk ∧ Hid (Below wq.heap.size wq wr))
    case atStart => exact ⟨t, [], _, _, rfl, rfl, own1, hide trivial, hide rfl, hide (fun x hx => by simp at hx; omega), hstart, by omega, hb0⟩
    case round =>
      clear own1 hb0 c5' zb' hstart
      obtain ⟨v, p, g, k, rfl, rfl, own, hch, hlast, hall, hcv, hgk, hb⟩ := hrel
      have hvn := hall.out v (by simp)
      have hlen : p.length + 1 ≤ n := by
        have h1 := (lch_up p v hch.out).1
        have := nodup_shortS n (v :: p) h1 hall.out
        simpa using this
      have hXr := hide (hX4.out.stays (hb.out))
      have c4 := hXr.out.c4
      have zb := cell_lt c4
      simp only at zb
      by_cases hvs : v = s
      · subst hvs
        have qv1 : ((v : Int) != (v : Int)) = false := by simp
        have c5 := hXr.out.c5
        have c6 := hXr.out.c6
        have d0 := hXr.out.cost.atI t ht
        rw [← hct.out] at d0
        have zc := cell_lt d0
        simp only at zc
        have hc0 : c1 v = 0 := by rw [hcv.out.1, g1.out.ls]
        have hZ0 : LzI wr ct (.slice none 0 0) [] (wr.alloc (.cells #[.slice none 0 0, .int .i64 ct] 36)).drew :=
          ⟨by simp [go_sem], by simp [go_sem], by simp [go_sem], Own.nil _ _, up_drew (up_alloc (Below.refl _ _) (Nat.le_refl _))⟩
        replace hZ0 := hide hZ0
        replace hc0 := hide hc0
        have zpl : (LP (v :: p)).length = p.length + 1 := by rw [lp_length]; rfl
        have hbk : LP (v :: p).reverse = (LP (v :: p)).reverse := lp_rev _
        rw [hbk] at own
        obtain ⟨PL, hPL⟩ : ∃ PL, PL = LP (v :: p) := ⟨_, rfl⟩
        rw [← hPL] at own zpl
        obtain ⟨P, hP⟩ : ∃ P, P = p.length := ⟨_, rfl⟩
        rw [← hP] at own zpl hlen
        have hP64 : P ≤ 63 := by omega
        simp only [← hP]
        replace hPL := hide hPL
        replace hP := hide hP
        clear hbk hgk
        go_wp2
        go_region
        go_wp2
        obtain ⟨wo, rfl⟩ : ∃ wo : World, wo = wr := ⟨_, rfl⟩
        generalize (wo.alloc (.cells #[.slice none 0 0, .int .i64 ct] 36)).drew = wz at hZ0 ⊢
        clear c4 c5 c6 d0 zb zc
        go_loopw [11] (fun s11 wr => ∃ (j k2 c0 : Nat) (a0 : Option Addr), j + k2 = P + 1 ∧ s11 = .int .i64 ((j : Int) - 1) ∧ Hid (LzI wo ct (.slice a0 k2 c0) (PL.take k2) wr)) (fun s11 _ => (intOf s11 + 1).toNat)
        case atStart => exact ⟨P + 1, 0, 0, none, by omega, by go_num, by rw [List.take_zero]; exact hZ0⟩
        case round =>
          obtain ⟨j, k2, c0, a0', hjk, rfl, hZ⟩ := hrel
          clear hZ0
          have z0 := hZ.out.o0
          have z1 := hZ.out.o1
          have zf := hZ.out.fo
          have zl := hZ.out.lt
          rcases j with _ | j
          · obtain rfl : k2 = P + 1 := by omega
            have e0 : ((0 : Nat) : Int) - 1 = -1 := by omega
            rw [e0]
            have hz7 := hZ.out.bel.size
            have hwz : w.heap.size < wo.heap.size := by have := hb.out.size; omega
            have hbq := hide (hb.out.trans (hZ.out.bel.mono hb.out.size))
            have r0 := cu_below hbq.out r0 zr
            have r1 := cu_below hbq.out r1 zr
            have ff0 := fu_below hbq.out rf0 zr
            have ff1 := fu_below hbq.out rf1 zr
            have hrl : w.heap.size < wr.heap.size := by omega
            have e2 : PL.take (P + 1) = PL := List.take_of_length_le (by omega)
            have hne : (Value.slice a0' (P + 1) c0).ownBlock ≠ some w.heap.size := fun e => by have := (hZ.out.own.block_lt _ e).1; omega
            have own8 := ((hZ.out.own.elsewhere (p := ⟨w.heap.size, 0, none⟩) hne (.slice a0' (P + 1) c0)).elsewhere (p := ⟨w.heap.size, 1, none⟩) hne (.int .i64 ct)).base_le (show w.heap.size ≤ wo.heap.size + 1 by omega)
            rw [e2] at own8
            have own8 := hide own8
            have hkp := (((Keep.refl (fun j => j = w.heap.size) wr).setCell (p := ⟨w.heap.size, 0, none⟩) (.inl rfl) (.slice a0' (P + 1) c0)).setCell (p := ⟨w.heap.size, 1, none⟩) (.inl rfl) (.int .i64 ct))
            have hXe := hide ((hX4.out.stays hbq.out).frame hkp (fun j hj => by subst hj; exact ⟨hbg0, fun e => hvb.out _ e rfl, hbg1⟩))
            have hk6 := hide (((hk4.out.trans (Keep.new (S := A) hbq.out)).setCell (p := ⟨w.heap.size, 0, none⟩) (.inr (Nat.le_refl _)) (.slice a0' (P + 1) c0)).setCell (p := ⟨w.heap.size, 1, none⟩) (.inr (Nat.le_refl _)) (.int .i64 ct))
            clear hne e0 e2 hkp hXr
            go_wp2
            refine bodyPost_ret (v := .tuple #[.agg #[.slice a0' (P + 1) c0, .int .i64 ct], .int .i64 0]) (by simp [results, Try.results49, go_sem, r0, r1, hrl]) rfl ?_
            exact hfin.out _ _ ⟨a1, q1, k1, f1, c1, l1, wk1, hXe.out, g1.out, g2.out, g3.out, g4.out, g5, g6, g7.out, by rw [← hA]; exact hk6.out, hbl.out, .inr ⟨by rw [← hct.out]; exact hlt, hc0.out, p, a0', c0, hch.out, hlast.out, hall.out, by rw [← hct.out, ← hP.out], by rw [← hP.out, ← hPL.out]; exact own8.out⟩⟩
          · have e1 : ((j + 1 : Nat) : Int) - 1 = (j : Int) := by omega
            rw [e1]
            have hjr : j < PL.reverse.length := by rw [List.length_reverse]; omega
            have cb := cu_below hZ.out.bel (own.out.getI j hjr) own.out.at_base.2
            have hgl : g < wr.heap.size := cell_lt cb
            have hlen2 : (PL.take k2).length = k2 := by rw [List.length_take]; omega
            have hpt := rev_take (xs := PL) (j := j) (k := k2) (by omega) hjr
            obtain ⟨x, hx⟩ : ∃ x : Int, x = PL.reverse[j] := ⟨_, rfl⟩
            rw [← hx] at hpt cb
            replace hx := hide hx
            replace hpt := hide hpt
            replace hlen2 := hide hlen2
            have ij : (0 : Int) ≤ (j : Int) ∧ (j : Int) < (P : Int) + 1 := by omega
            have ij2 : (j : Int) < ((P + 1 : Nat) : Int) := by omega
            have hki : k2 ≤ P := by omega
            clear e1
            go_wp2
            go_region_law (first
              | (refine step_pushAll (base := wo.heap.size + 1) (xs := PL.take k2) (v := .slice a0' k2 c0) rfl (.tmp 118) (.tmp 123) 29 rfl _ 8 Try.underlying29 info_int rfl (by omega) lenI oneI k2 hlen2.out rfl (hZ.out.own.alloc _).drew (wr.heap.size + 1) (some ⟨wr.heap.size, 0, none⟩) 1 1 [x] rfl rfl ((row1 (by simp [go_sem])).mono (by simp)) (by omega) (by unfold maxLen; omega) (by simp; omega) ?_; intro a4 c4 w4 own4 hb4 hg4; have hZ4 := (hZ.out.stays (w' := wr.alloc (.cells #[.int .i64 x] 3)) (up_alloc (Below.refl _ _) (Nat.le_refl _))); have hg5 : (wr.alloc (.cells #[.int .i64 x] 3)).grownBy w4 (Value.slice a0' k2 c0).ownBlock := ⟨hg4.os, hg4.tape, hg4.output, hg4.size, hg4.block⟩; have hZ5 := hZ4.grew own4 hg5; rw [← hpt.out] at hZ5; have hap4 := hZ4.ap; have k4 := hg5.cell hZ4.o0 (fun e => hap4 e.symm); have f4 := (hg5.frozen_far ⟨wo.heap.size, 0, none⟩ (by first | (simp; done) | (simp; omega)) (fun e => hap4 e.symm)).trans hZ4.fo))
            all_goals
              replace own4 := hide own4
              replace hb4 := hide hb4
              replace hg4 := hide hg4
              replace hg5 := hide hg5
              replace hZ4 := hide hZ4
              replace hZ5 := hide hZ5
              clear k4 f4 hap4 cb
              go_wp2
              go_roundw
              case rel => exact ⟨j, k2 + 1, c4, a4, by omega, by go_num, hZ5⟩
              case measure => simp [intOf] <;> omega
      · have qv1 : ((v : Int) != (s : Int)) = true := by simp; omega
        have hcn : c1 v ≤ c1 t := hcv.out.2
        have hcF : c1 v < FAR := by have := hct.out; unfold FAR; omega
        obtain ⟨e0, he0, hev0, heq0⟩ := life_back (v := v) g1.out g4.out hvn hvs hcv.out.1 hcF
        obtain ⟨km, hkm, hMt⟩ := mt_some hR.out hE.out he0 hev0 heq0 (by omega)
        obtain ⟨av, cw, t0, t1, t2, t3, town, tblk⟩ := hT.out.ins.row v hvn
        have t0 := hXr.out.keep.cu t0 (hT.out.ap I (.inl ⟨t1, t2⟩))
        have c2 := hXr.out.c2
        have zI := cell_lt t0
        simp only at zI
        have hcbv := hcb.out v hvn
        obtain ⟨cv, hcvd⟩ : ∃ x, x = c1 v := ⟨_, rfl⟩
        obtain ⟨L, hLd⟩ : ∃ L, L = (outIdx (es.map flip) v (es.map flip).length).length := ⟨_, rfl⟩
        have hL6 : L ≤ 600 := by rw [hLd]; have := outIdx_len (es.map flip) v (es.map flip).length; have h9 : (es.map flip).length = m := (by simp [hm.out]); omega
        rw [← hLd] at t0 town tblk hkm
        replace hLd := hide hLd
        have iv : (0 : Int) ≤ (v : Int) ∧ (v : Int) < (n : Int) := by omega
        obtain ⟨wo, hwo⟩ : ∃ wo : World, wo = wr := ⟨_, rfl⟩
        replace hvs := hide hvs
        replace hMt := hide hMt
        clear he0 hev0 heq0 e0
        go_wp2
        simp only [← hwo] at own hb hXr ⊢
        have hb9 := hide (Below.refl wo.heap.size wo)
        clear t0 c2 c4 zb zI
        clear hwo
        go_loopw [6, 49] (fun s6 i wr => ∃ j : Nat, j ≤ L ∧ i = .int .i64 (j : Int) ∧ s6 = .int .i64 (-1) ∧ Hid (∀ k2, k2 < j → ¬ Mt c1 es v k2) ∧ Hid (Below wo.heap.size wo wr)) (fun _ i _ => L - (intOf i).toNat)
        case atStart => exact ⟨0, Nat.zero_le _, rfl, rfl, hide (fun k2 h => absurd h (Nat.not_lt_zero _)), hb9⟩
        case round =>
          clear hb9
          obtain ⟨j, hj, rfl, rfl, hno, hbo⟩ := hrel
          by_cases hlt2 : j < L
          · have hjl : j < (outIdx (es.map flip) v (es.map flip).length).length := by rw [← hLd.out]; exact hlt2
            obtain ⟨i, hi0, hi1', hi2'⟩ := outIdx_get (es.map flip) v j hjl
            have hi : i < es.length := by simpa using hi1'
            have hvi : es[i].v = (v : Int) := by simpa [flip] using hi2'
            obtain ⟨x, y, e1, e2, e3, e4, e5, e6, -⟩ := right_edge hR.out i hi
            have hXn := hX4.out.stays (hb.out.trans (hbo.out.mono hb.out.size))
            have hk0 := hXn.keep
            obtain ⟨gi, hgi, hg1⟩ := town.blockI' (show 0 < L by omega)
            subst hgi
            have hrow : wr.cell? ⟨gi, j, none⟩ = some (.int .i64 (i : Int)) := by
              have h1 := town.getI j hjl
              rw [hi0] at h1
              exact hk0.cu h1 (hT.out.ap gi (.inl (tblk gi rfl)))
            obtain ⟨ge, hge, hge2⟩ : ∃ ge, ae = some ⟨ge, 0, none⟩ ∧ ge < wr.heap.size := by
              obtain ⟨g9, h2, _, h3⟩ := hXn.eo.blockI' (by have := hm.out; omega)
              exact ⟨g9, h2, h3⟩
            subst hge
            obtain ⟨k0, k1', k2'⟩ := hXn.eo.getE i hi
            have hmt := mt_is (c := c1) hjl hi0 hi hvi e1
            obtain ⟨ee, hee⟩ : ∃ ee, ee = es[i].c := ⟨_, rfl⟩
            rw [e1] at k0
            rw [hvi] at k1'
            rw [← hee] at k2' e5 e6 hmt
            have c1' := hXn.c1
            have c6 := hXn.c6
            have d0 := hXn.cost.atI x e3
            have d1 := hXn.cost.atI v hvn
            have hcx := hcb.out x e3
            obtain ⟨cx, hcx2⟩ : ∃ cx, cx = c1 x := ⟨_, rfl⟩
            rw [← hcx2] at d0 hcx hmt
            rw [← hcvd] at d1 hmt
            unfold FAR at hcx
            have hlow : cx < FAR → cx + ee = cv → c1 x = l1 x ∧ c1 x < c1 v := fun h1 h2 => by
              have hmem : (⟨x, v, ee⟩ : NE) ∈ nes es := List.mem_map.2 ⟨es[i], List.getElem_mem hi, by rw [e1, hvi, hee]; simp⟩
              exact life_ahead (e := ⟨x, v, ee⟩) g1.out hE.out g4.out hmem hcn (by rw [← hcx2, ← hcvd]; exact h2)
            have hmin : c1 v = l1 v → cx < FAR → cx + ee = cv → minE (x : Int) (v : Int) es = c1 v - c1 x ∧ c1 x < c1 v ∧ minE (x : Int) (v : Int) es ≠ 1099511627776 := fun h0 h1 h2 => by
              have hmem : (⟨x, v, ee⟩ : NE) ∈ nes es := List.mem_map.2 ⟨es[i], List.getElem_mem hi, by rw [e1, hvi, hee]; simp⟩
              exact life_min (e := ⟨x, v, ee⟩) g1.out hR.out hE.out hmem hvs.out h0 (by rw [← hcx2, ← hcvd]; exact h2)
            have hwr1 : IntKind.i64.wrap (cx + ee) = cx + ee := IntWalk.i64_in _ (by omega)
            have ii : (0 : Int) ≤ (i : Int) ∧ (i : Int) < (m : Int) := by have := hm.out; omega
            have ij : (0 : Int) ≤ (j : Int) ∧ (j : Int) < (L : Int) := by omega
            have ix : (0 : Int) ≤ (x : Int) ∧ (x : Int) < (n : Int) := by omega
            have zi := cell_lt hrow
            have zb := cell_lt c1'
            have zc := cell_lt d0
            simp only at zi zb zc
            have hbe := hide (show ∀ nq, Below wo.heap.size wo ((wr.alloc (.cells #[.int .i64 (x : Int), .int .i64 (v : Int), .int .i64 ee] 34)).drewN nq) from fun nq => up_drewN (up_alloc hbo.out hbo.out.size))
            have hnx := hide (show ¬ Mt c1 es v j → ∀ k2, k2 < j + 1 → ¬ Mt c1 es v k2 from fun h0 k2 hk2 => by
              rcases Nat.lt_or_eq_of_le (Nat.le_of_lt_succ hk2) with h | h
              · exact hno.out k2 h
              · subst h; exact h0)
            replace hcx2 := hide hcx2
            replace hee := hide hee
            replace e1 := hide e1
            replace e2 := hide e2
            replace hvi := hide hvi
            replace hi0 := hide hi0
            replace hi1' := hide hi1'
            replace hi2' := hide hi2'
            replace hlow := hide hlow
            replace hmin := hide hmin
            replace hmt := hide hmt
            have hcvd' := hide hcvd
            clear hXn hk0 hcvd
            by_cases hxF : cx < 1099511627776
            · by_cases hxe : cx + ee = cv
              · have qe : (cx + ee == cv) = true := by simpa using hxe
                obtain ⟨hl1, hl2⟩ := hlow.out hxF hxe
                obtain ⟨hm1, hm2, hm3⟩ := hmin.out hcv.out.1 hxF hxe
                have hch2 := hide (show LCh es c1 (x :: v :: p) from ⟨hm1, hm2, hm3, hch.out⟩)
                have hcv2 := hide (show c1 x = l1 x ∧ c1 x ≤ c1 t from ⟨hl1, by omega⟩)
                have hall2 := hide (show ∀ z ∈ x :: v :: p, z < n from fun z hz => by
                  rcases List.mem_cons.1 hz with rfl | hz
                  · exact e3
                  · exact hall.out z hz)
                have hlast2 := hide (show (x :: v :: p).getLast (by simp) = t from by rw [List.getLast_cons_cons]; exact hlast.out)
                have hgk2 : (c1 x).toNat < gk - 1 := by have := (hcb.out x e3).1; omega
                have e8 : LP (x :: v :: p).reverse = LP (v :: p).reverse ++ [(x : Int)] := by rw [List.reverse_cons, lp_app]
                have hlb : (LP (v :: p).reverse).length = p.length + 1 := by rw [lp_length]; simp
                replace hxe := hide hxe
                replace hl1 := hide hl1
                replace hl2 := hide hl2
                replace hm1 := hide hm1
                replace hm2 := hide hm2
                replace e8 := hide e8
                clear hno hnx hmt hlow hmin hm3
                go_wp2
                go_quiet (fail)
                have hbe2 := hide (hbe.out nq)
                have m0 : ((wr.alloc (.cells #[.int .i64 (x : Int), .int .i64 (v : Int), .int .i64 ee] 34)).drewN nq).cell? ⟨wr.heap.size, 0, none⟩ = some (.int .i64 (x : Int)) := cu_drewN (by simp [go_sem])
                generalize (wr.alloc (.cells #[.int .i64 (x : Int), .int .i64 (v : Int), .int .i64 ee] 34)).drewN nq = w7 at hbe2 m0 ⊢
                have zm := cell_lt m0
                simp only at zm
                have own7 := hide (own.out.stays hbe2.out)
                have hb7 := hide (hb.out.trans (hbe2.out.mono hb.out.size))
                have hz7 : wq.heap.size ≤ w7.heap.size := hb7.out.size
                clear own hbe c6 c1' d0 d1 k0 k1' k2' hrow zi zb zc hbo hb
                go_wp2_with (at_builtin; (refine wpList_push (e := 3) (enc := encI) (xs := (LP (v :: p).reverse)) (v := .slice (some ⟨g, 0, none⟩) ((p.length + 1)) k) (base := wq.heap.size) rfl (.tmp 94) (.tmp 96) 29 rfl _ 8 Try.underlying29 info_int rfl ?d16 lenI oneI ((p.length + 1)) ?d26 ?d36 ?d46 ⟨w7.heap.size, 0, none⟩ 1 (x : Int) ?d56 ?d66 ?d76 ?d86 ?d96 ?_); (case d16 => omega); (case d26 => exact hlb); (case d36 => rfl); (case d46 => exact (own7.out.alloc _)); (case d56 => rfl); (case d66 => exact newI _ _ _ _ rfl); (case d76 => omega); (case d86 => unfold maxLen; omega); (case d96 => first | omega | (simp; done) | (simp; omega)); intro g6 c6 w6 own6 hb6 hgr6 hg6 hgl6; rw [← e8.out] at own6; have hb8 := hide (hb7.out.trans ((up_alloc (Below.refl wq.heap.size w7) (o := .cells #[.int .i64 (x : Int)] 3) hz7).trans hb6)); replace own6 := hide own6; clear hgr6 hg6 hgl6 hb6)
                go_roundg (gk - 1)
                case measure => omega
                case rel => exact ⟨x, v :: p, g6, c6, rfl, rfl, own6, hch2, hlast2, hall2, hcv2, hgk2, hb8⟩
              · have qe : (cx + ee == cv) = false := by simpa using hxe
                have hn2 := hide (hnx.out (fun h => hxe (hmt.out.1 h).2))
                replace hxe := hide hxe
                clear hnx hmt hlow hmin
                go_wp2
                go_quiet (fail)
                have hbe2 := hide (hbe.out nq)
                go_wp2
                go_roundw
                case rel => exact ⟨j + 1, by omega, by go_num, rfl, hn2, hbe2⟩
                case measure => simp [intOf]; omega
            · have hn2 := hide (hnx.out (fun h => hxF (hmt.out.1 h).1))
              have hxf2 : (cx < 1099511627776) = False := by simp [hxF]
              have hxf3 : decide (cx < 1099511627776) = false := by simp [hxF]
              clear hnx hmt hlow hmin
              go_wp2
              go_quiet (fail)
              have hbe2 := hide (hbe.out nq)
              go_wp2
              go_roundw
              case rel => exact ⟨j + 1, by omega, by go_num, rfl, hn2, hbe2⟩
              case measure => simp [intOf]; omega
          · obtain rfl : L = j := by omega
            exact absurd hMt.out (hno.out km hkm)
end
end Go.Proofs.Ytcehdpeeaogpiaa

/-! Plans (life) as objects that own what they made: what a call of one does, and that it leaves all else alone. Conditions: stated with each. -/
namespace Go.Proofs.Ytcehdpeeaogpiaa
open Go.RowKit
set_option linter.unusedSimpArgs false
set_option linter.unusedVariables false
/-- a world's first n blocks -/
def cutL (w : World) (n : Nat) : World := { w with heap := w.heap.extract 0 n }
theorem cutL_size {w : World} {n : Nat} (h : n ≤ w.heap.size) : (cutL w n).heap.size = n := by simp [cutL]; omega
theorem cutL_block {w : World} {n j : Nat} (h : n ≤ w.heap.size) (hj : j < n) : (cutL w n).heap[j]? = w.heap[j]? := by
  simp [cutL, Array.getElem?_extract]; omega
theorem cutL_keep {w : World} {n : Nat} (S : Nat → Prop) (h : n ≤ w.heap.size) : Keep S (cutL w n) w :=
  ⟨rfl, rfl, rfl, by rw [cutL_size h]; exact h, fun k hk _ => by rw [cutL_size h] at hk; exact (cutL_block h hk).symm⟩
/-- what a set becomes by what is made -/
def lgrown (A : Nat → Prop) (w w' : World) (j : Nat) : Prop := A j ∨ (w.heap.size ≤ j ∧ j < w'.heap.size)
theorem lnf_true {A : Nat → Prop} (w : World) : @LNf (LFr.from w (fun _ => True)) A w := ⟨Keep.refl _ _, fun _ _ => .inl trivial⟩
/-- a plan: pb the object, A what is its own, C what it reads besides -/
def LPl (n s t : Nat) (es : List Ed) (c l : Nat → Int) (q wk pb : Nat) (A C : Nat → Prop) (w : World) : Prop :=
  ∃ gc gl gh cc cl I O ec ae lo1 hi1 lo2 hi2 a0 qc f wS, @LX (LFr.from w (fun _ => True)) n pb gc gl gh cc cl I O (.slice ae es.length ec) (s : Int) (t : Int) es (.slice a0 q qc) q f c l wk wS w ∧ LTab wS lo1 hi1 lo2 hi2 n pb gc gl gh I O (.slice ae es.length ec) es ∧ Right n es ∧ (∀ e ∈ es, 1 ≤ e.c) ∧ es.length ≤ 600 ∧ n ≤ 64 ∧ s < n ∧ t < n ∧ HeapOK spLt q f ∧ LOk n s (nes es) c l (fun _ => False) ∧ LHas n s c l (fun _ => False) (RW q f) ∧ (∀ j, LXb pb gc gl gh (.slice ae es.length ec) j ∨ (Value.slice a0 q qc).ownBlock = some j → A j) ∧ (∀ j, (lo1 ≤ j ∧ j < hi1) ∨ (lo2 ≤ j ∧ j < hi2) → C j) ∧ (∀ j, A j → j < w.heap.size)
section
variable {n s t : Nat} {es : List Ed} {c l : Nat → Int} {q wk pb : Nat} {A C : Nat → Prop} {w w' : World}
theorem LPl.lt (hO : LPl n s t es c l q wk pb A C w) {j : Nat} (hj : A j) : j < w.heap.size := by
  obtain ⟨gc, gl, gh, cc, cl, I, O, ec, ae, lo1, hi1, lo2, hi2, a0, qc, f, wS, g1, g2, g3, g4, g5, g6, g7, g8, g9, g10, g11, g12, g13, g14⟩ := hO
  exact g14 j hj
theorem LPl.net (hO : LPl n s t es c l q wk pb A C w) : Right n es ∧ (∀ e ∈ es, 1 ≤ e.c) ∧ es.length ≤ 600 ∧ n ≤ 64 ∧ s < n ∧ t < n ∧ LOk n s (nes es) c l (fun _ => False) := by
  obtain ⟨gc, gl, gh, cc, cl, I, O, ec, ae, lo1, hi1, lo2, hi2, a0, qc, f, wS, g1, g2, g3, g4, g5, g6, g7, g8, g9, g10, g11, g12, g13, g14⟩ := hO
  exact ⟨g3, g4, g5, g6, g7, g8, g10⟩
theorem LPl.keep (hO : LPl n s t es c l q wk pb A C w) {T : Nat → Prop} (kp : Keep T w w') (hT : ∀ j, A j ∨ C j → ¬ T j) : LPl n s t es c l q wk pb A C w' := by
  obtain ⟨gc, gl, gh, cc, cl, I, O, ec, ae, lo1, hi1, lo2, hi2, a0, qc, f, wS, g1, g2, g3, g4, g5, g6, g7, g8, g9, g10, g11, g12, g13, g14⟩ := hO
  have hk := @LX.keep (LFr.from w (fun _ => True)) _ _ _ _ _ _ _ _ _ _ _ _ _ _ _ _ _ _ _ _ _ g1
  have hz : wS.heap.size ≤ w'.heap.size := Nat.le_trans hk.size kp.size
  have hcs := cutL_size hz
  have hkc : Keep (fun j => LXb pb gc gl gh (.slice ae es.length ec) j ∨ ¬ C j) wS (cutL w' wS.heap.size) := by
    refine ⟨(kp.os.trans hk.os), kp.tape.trans hk.tape, kp.output.trans hk.output, Nat.le_of_eq hcs.symm, fun j hj hn => ?_⟩
    have h1 : ¬ LXb pb gc gl gh (.slice ae es.length ec) j := fun e => hn (.inl e)
    have h2 : C j := Classical.byContradiction fun e => hn (.inr e)
    rw [cutL_block hz hj, kp.block j (Nat.lt_of_lt_of_le hj hk.size) (hT j (.inr h2)), hk.block j hj h1]
  refine ⟨gc, gl, gh, cc, cl, I, O, ec, ae, lo1, hi1, lo2, hi2, a0, qc, f, cutL w' wS.heap.size, g1.rebase kp (fun j hj => hT j (.inl (g12 j hj))) hcs (cutL_keep _ hz) (lnf_true _), ⟨g2.ins.later hkc (fun k k1 k2 e => ?_), g2.outs.later hkc (fun k k1 k2 e => ?_), g2.ap⟩, g3, g4, g5, g6, g7, g8, g9, g10, g11, g12, g13, fun j hj => Nat.lt_of_lt_of_le (g14 j hj) kp.size⟩
  · rcases e with e | e
    · exact g2.ap k (.inl ⟨k1, k2⟩) e
    · exact e (g13 k (.inl ⟨k1, k2⟩))
  · rcases e with e | e
    · exact g2.ap k (.inr ⟨k1, k2⟩) e
    · exact e (g13 k (.inr ⟨k1, k2⟩))
theorem LPl.stays (hO : LPl n s t es c l q wk pb A C w) (hb : Below w.heap.size w w') : LPl n s t es c l q wk pb A C w' := hO.keep (Keep.new (S := fun _ => False) hb) (fun _ _ e => e)
theorem lpl_way (hO : LPl n s t es c l q wk pb A C w) (hq : q ≤ 99990000000) :
    Calls Try.prog 49 #[.pointer (some ⟨pb, 0, none⟩)] w fun e w' => ∃ c1 l1 q1 wk1, LPl n s t es c1 l1 q1 wk1 pb (lgrown A w w') C w' ∧ Keep A w w' ∧ LExit n c1 l1 t ∧ wk1 ≤ 2 * n ∧ q1 ≤ q + 601 * wk1 ∧ (LExit n c l t → wk1 = 0 ∧ c1 = c ∧ l1 = l) ∧ LWayIs n s t es c1 w e w' := by
  obtain ⟨gc, gl, gh, cc, cl, I, O, ec, ae, lo1, hi1, lo2, hi2, a0, qc, f, wS, g1, g2, g3, g4, g5, g6, g7, g8, g9, g10, g11, g12, g13, g14⟩ := hO
  have hk := @LX.keep (LFr.from w (fun _ => True)) _ _ _ _ _ _ _ _ _ _ _ _ _ _ _ _ _ _ _ _ _ g1
  refine (@lway_any (LFr.from w (fun _ => True)) n pb gc gl gh cc cl I O es a0 q qc f c l wk wS w lo1 hi1 lo2 hi2 s t es.length ec ae g7 g8 rfl g1 g2 g3 g4 g5 g6 hq g9 g10 g11).mono ?_
  rintro e w' ⟨a1, q1, k1, f1, c1, l1, wk1, h1, h2, h3, h4, h5, h6, h7, h8, h9, h10, h11⟩
  have hk1 := @LX.keep (LFr.from w (fun _ => True)) _ _ _ _ _ _ _ _ _ _ _ _ _ _ _ _ _ _ _ _ _ h1
  have hkA : Keep A w w' := h9.mono (fun j _ hj => g12 j hj)
  have hown := (@LX.heap (LFr.from w (fun _ => True)) _ _ _ _ _ _ _ _ _ _ _ _ _ _ _ _ _ _ _ _ _ h1).own
  refine ⟨c1, l1, q1, wk1, ⟨gc, gl, gh, cc, cl, I, O, ec, ae, lo1, hi1, lo2, hi2, a1, k1, f1, wS, h1.rebase (Keep.refl (fun _ => False) w') (fun _ _ e => e) rfl hk1 (lnf_true _), g2, g3, g4, g5, g6, g7, g8, h4, h2, h3, fun j hj => ?_, g13, fun j hj => ?_⟩, hkA, h5, h6, h7, h8, h11⟩
  · rcases hj with hj | hj
    · exact .inl (g12 j (.inl hj))
    · rcases h10 j hj with h | h
      · exact .inl (g12 j (.inr h))
      · exact .inr ⟨h, (hown.block_lt j hj).2⟩
  · rcases hj with hj | hj
    · exact Nat.lt_of_lt_of_le (g14 j hj) hkA.size
    · exact hj.2
end
/-- an edge of another cost -/
def edSet (es : List Ed) (x : Nat) (y : Int) : List Ed := es.set x ⟨(es.getD x ⟨0, 0, 0⟩).u, (es.getD x ⟨0, 0, 0⟩).v, y⟩
theorem edSet_is {es : List Ed} {x : Nat} (hx : x < es.length) (y : Int) : edSet es x y = es.set x ⟨es[x].u, es[x].v, y⟩ := by
  unfold edSet
  simp [List.getD, List.getElem?_eq_getElem hx]
theorem edSet_len (es : List Ed) (x : Nat) (y : Int) : (edSet es x y).length = es.length := by simp [edSet]
theorem edSet_right {n : Nat} {es : List Ed} {x : Nat} (hx : x < es.length) {y : Int} (hy : 1 ≤ y ∧ y ≤ 10000) (hR : Right n es) : Right n (edSet es x y) := by
  rw [edSet_is hx]
  intro e he
  rcases List.mem_or_eq_of_mem_set he with h | h
  · exact hR e h
  · have := hR _ (List.getElem_mem hx)
    rw [h]
    simp only
    omega
theorem edSet_pos {es : List Ed} {x : Nat} (hx : x < es.length) {y : Int} (hy : 1 ≤ y ∧ y ≤ 10000) (hp : ∀ e ∈ es, 1 ≤ e.c) : ∀ e ∈ edSet es x y, 1 ≤ e.c := by
  rw [edSet_is hx]
  intro e he
  rcases List.mem_or_eq_of_mem_set he with h | h
  · exact hp e h
  · rw [h]; exact hy.1
/-- Set's error -/
def setErr (m : Nat) (x y : Int) : Int := if x < 0 ∨ x ≥ (m : Int) then 1 else if y < 1 ∨ y > 10000 then 4 else 0
section
variable [LFr]
variable {n pb gc gl gh cc cl I O : Nat} {es : List Ed} {a0 : Option Addr} {q qc : Nat} {f : Nat → Ed} {c l : Nat → Int} {wk : Nat} {wS w : World}
theorem lset_bad (m ec : Nat) (ae : Option Addr) (fr tg : Int) (x y : Int) (hX : LX n pb gc gl gh cc cl I O (.slice ae m ec) fr tg es (.slice a0 q qc) q f c l wk wS w) (h0 : setErr m x y ≠ 0) :
    Calls Try.prog 55 #[.pointer (some ⟨pb, 0, none⟩), .int .i64 x, .int .i64 y] w fun e w' => e = .returned (.int .i64 (setErr m x y)) ∧ Below w.heap.size w w' := by
  have c1 := hX.c1
  have zb := cell_lt c1
  simp only at zb
  clear hX
  by_cases h1 : x < 0
  · have e1 : setErr m x y = 1 := by unfold setErr; rw [if_pos (.inl h1)]
    rw [e1]
    have q1 : (x < 0) = True := by simp [h1]
    go_enter Try.func55, Try.ntmps55
    go_wp2
    go_ret
    exact ⟨rfl, (by repeat (first | with_reducible exact Below.refl _ _ | with_reducible assumption | with_reducible refine up_drewN ?_ | with_reducible refine up_drew ?_ | (with_reducible refine up_alloc ?_ ?_; rotate_left; (first | omega | (simp <;> omega) | simp)) | (with_reducible refine up_set ?_ ?_; rotate_left; (first | omega | (simp <;> omega) | simp)) | (with_reducible refine Below.trans ?_ (Below.mono (by with_reducible assumption) ?_); rotate_left; (first | omega | (simp <;> omega) | simp))))⟩
  · have q1 : (x < 0) = False := by simp [h1]
    by_cases h2 : x ≥ (m : Int)
    · have e1 : setErr m x y = 1 := by unfold setErr; rw [if_pos (.inr h2)]
      rw [e1]
      have q2 : ((m : Int) ≤ x) = True := by simp; omega
      go_enter Try.func55, Try.ntmps55
      go_wp2
      go_ret
      exact ⟨rfl, (by repeat (first | with_reducible exact Below.refl _ _ | with_reducible assumption | with_reducible refine up_drewN ?_ | with_reducible refine up_drew ?_ | (with_reducible refine up_alloc ?_ ?_; rotate_left; (first | omega | (simp <;> omega) | simp)) | (with_reducible refine up_set ?_ ?_; rotate_left; (first | omega | (simp <;> omega) | simp)) | (with_reducible refine Below.trans ?_ (Below.mono (by with_reducible assumption) ?_); rotate_left; (first | omega | (simp <;> omega) | simp))))⟩
    · have q2 : ((m : Int) ≤ x) = False := by simp; omega
      have hb : y < 1 ∨ y > 10000 := by
        unfold setErr at h0
        rw [if_neg (by omega)] at h0
        by_cases h3 : y < 1 ∨ y > 10000
        · exact h3
        · rw [if_neg h3] at h0; exact absurd rfl h0
      have e1 : setErr m x y = 4 := by unfold setErr; rw [if_neg (by omega), if_pos hb]
      rw [e1]
      clear h0 e1
      by_cases h3 : y < 1
      · have q3 : (y < 1) = True := by simp [h3]
        go_enter Try.func55, Try.ntmps55
        go_wp2
        go_ret
        exact ⟨rfl, (by repeat (first | with_reducible exact Below.refl _ _ | with_reducible assumption | with_reducible refine up_drewN ?_ | with_reducible refine up_drew ?_ | (with_reducible refine up_alloc ?_ ?_; rotate_left; (first | omega | (simp <;> omega) | simp)) | (with_reducible refine up_set ?_ ?_; rotate_left; (first | omega | (simp <;> omega) | simp)) | (with_reducible refine Below.trans ?_ (Below.mono (by with_reducible assumption) ?_); rotate_left; (first | omega | (simp <;> omega) | simp))))⟩
      · have q3 : (y < 1) = False := by simp [h3]
        have q4 : (10000 < y) = True := by simp; omega
        go_enter Try.func55, Try.ntmps55
        go_wp2
        go_ret
        exact ⟨rfl, (by repeat (first | with_reducible exact Below.refl _ _ | with_reducible assumption | with_reducible refine up_drewN ?_ | with_reducible refine up_drew ?_ | (with_reducible refine up_alloc ?_ ?_; rotate_left; (first | omega | (simp <;> omega) | simp)) | (with_reducible refine up_set ?_ ?_; rotate_left; (first | omega | (simp <;> omega) | simp)) | (with_reducible refine Below.trans ?_ (Below.mono (by with_reducible assumption) ?_); rotate_left; (first | omega | (simp <;> omega) | simp))))⟩
set_option maxRecDepth 100000 in
set_option maxHeartbeats 2000000 in
theorem lset_ok (lo1 hi1 lo2 hi2 m ec : Nat) (ae : Option Addr) (s t : Nat) (x : Nat) (y : Int) (hx : x < m) (hy : 1 ≤ y ∧ y ≤ 10000) (hm : es.length = m) (hX : LX n pb gc gl gh cc cl I O (.slice ae m ec) (s : Int) (t : Int) es (.slice a0 q qc) q f c l wk wS w) (hT : LTab wS lo1 hi1 lo2 hi2 n pb gc gl gh I O (.slice ae m ec) es) (hR : Right n es) (hp : ∀ e ∈ es, 1 ≤ e.c) (hm6 : m ≤ 600) (hn : n ≤ 64) (hcb : ∀ v, v < n → 0 ≤ c v ∧ c v ≤ FAR) (hq : q ≤ 100000000000) (hok : HeapOK spLt q f) :
    Calls Try.prog 55 #[.pointer (some ⟨pb, 0, none⟩), .int .i64 (x : Int), .int .i64 y] w fun e w' => e = .returned (.int .i64 0) ∧ ∃ u : Nat, u < n ∧ (es.getD x ⟨0, 0, 0⟩).v = (u : Int) ∧ ∃ a1 q1 k1 f1 l1, LX n pb gc gl gh cc cl I O (.slice ae m ec) (s : Int) (t : Int) (edSet es x y) (.slice a1 q1 k1) q1 f1 c l1 wk wS w' ∧ (((u : Int) = (s : Int) ∧ l1 = l ∧ q1 = q ∧ f1 = f) ∨ ((u : Int) ≠ (s : Int) ∧ l1 = upz l u (lookOf (nes (edSet es x y)) c u) ∧ PutTo c l1 u q f q1 f1)) := by
  have hxe : x < es.length := by omega
  obtain ⟨ge, hge, hge2⟩ : ∃ ge, ae = some ⟨ge, 0, none⟩ ∧ ge < w.heap.size := by
    obtain ⟨g, h2, _, h3⟩ := hX.eo.blockI' (by omega)
    exact ⟨g, h2, h3⟩
  subst hge
  have hX2 := hX.setE x hxe y
  have hT2 := hT.edit x hxe y
  rw [← edSet_is hxe] at hX2 hT2
  obtain ⟨z, u, e1, e2, e3, e4, e5, e6, -⟩ := right_edge hR x hxe
  have hgd : (es.getD x ⟨0, 0, 0⟩).v = (u : Int) := by simp [List.getD, List.getElem?_eq_getElem hxe, e2]
  have hC := hide (lmend_any lo1 hi1 lo2 hi2 u m ec (some ⟨ge, 0, none⟩) e4 rfl (by rw [edSet_len]; exact hm) hX2 hT2 (edSet_right hxe hy hR) (edSet_pos hxe hy hp) hm6 hn hcb hq hok)
  obtain ⟨k0, k1, k2⟩ := hX.eo.getE x hxe
  rw [e2] at k1
  have fe := hX.eo.free (x * 3 + 2)
  have c1 := hX.c1
  have zb := cell_lt c1
  simp only at zb
  have q1 : ((x : Int) < 0) = False := by simp
  have q2 : ((m : Int) ≤ (x : Int)) = False := by simp; omega
  have q3 : (y < 1) = False := by simp; omega
  have q4 : (10000 < y) = False := by simp; omega
  have ix : (0 : Int) ≤ (x : Int) ∧ (x : Int) < (m : Int) := by omega
  have hgp : ge ≠ pb := (hX.ne.2 ge rfl).1
  obtain ⟨cc0, hcc0⟩ : ∃ cc0, cc0 = es[x].c := ⟨_, rfl⟩
  rw [← hcc0] at k2
  replace hcc0 := hide hcc0
  replace hgd := hide hgd
  replace hm := hide hm
  clear hX hX2 hT hT2 hR hp hcb hok k0 e1 e2 e5 e6
  go_enter Try.func55, Try.ntmps55
  go_wp2_with fail
  refine hC.out.mono ?_
  rintro e w7 ⟨rfl, a7, q7, k7, f7, l7, hX7, hm7⟩
  replace hX7 := hide hX7
  replace hm7 := hide hm7
  clear hC
  go_wp2
  go_ret
  exact ⟨rfl, u, e4, hgd.out, a7, q7, k7, f7, l7, hX7.out, hm7.out⟩
end
section
variable {n s t : Nat} {es : List Ed} {c l : Nat → Int} {q wk pb : Nat} {A C : Nat → Prop} {w w' : World}
theorem lpl_set_bad (hO : LPl n s t es c l q wk pb A C w) (x y : Int) (h0 : setErr es.length x y ≠ 0) :
    Calls Try.prog 55 #[.pointer (some ⟨pb, 0, none⟩), .int .i64 x, .int .i64 y] w fun e w' => e = .returned (.int .i64 (setErr es.length x y)) ∧ Below w.heap.size w w' := by
  obtain ⟨gc, gl, gh, cc, cl, I, O, ec, ae, lo1, hi1, lo2, hi2, a0, qc, f, wS, g1, g2, g3, g4, g5, g6, g7, g8, g9, g10, g11, g12, g13, g14⟩ := hO
  exact @lset_bad (LFr.from w (fun _ => True)) n pb gc gl gh cc cl I O es a0 q qc f c l wk wS w es.length ec ae (s : Int) (t : Int) x y g1 h0
theorem lpl_set_ok (hO : LPl n s t es c l q wk pb A C w) (x : Nat) (y : Int) (hx : x < es.length) (hy : 1 ≤ y ∧ y ≤ 10000) (hq : q ≤ 99990000000) :
    Calls Try.prog 55 #[.pointer (some ⟨pb, 0, none⟩), .int .i64 (x : Int), .int .i64 y] w fun e w' => e = .returned (.int .i64 0) ∧ ∃ l1 q1, LPl n s t (edSet es x y) c l1 q1 wk pb (lgrown A w w') C w' ∧ Keep A w w' ∧ q1 ≤ q + 1 := by
  obtain ⟨gc, gl, gh, cc, cl, I, O, ec, ae, lo1, hi1, lo2, hi2, a0, qc, f, wS, g1, g2, g3, g4, g5, g6, g7, g8, g9, g10, g11, g12, g13, g14⟩ := hO
  have hk := @LX.keep (LFr.from w (fun _ => True)) _ _ _ _ _ _ _ _ _ _ _ _ _ _ _ _ _ _ _ _ _ g1
  have h2 := g1.rebase (I2 := LFr.from w A) (Keep.refl (fun _ => False) w) (fun _ _ e => e) rfl hk ⟨Keep.refl _ _, fun j hj => .inl (g12 j hj)⟩
  refine (@lset_ok (LFr.from w A) n pb gc gl gh cc cl I O es a0 q qc f c l wk wS w lo1 hi1 lo2 hi2 es.length ec ae s t x y hx hy rfl h2 g2 g3 g4 g5 g6 g10.cb (by omega) g9).mono ?_
  rintro e w' ⟨rfl, u, hu, hgu, a1, q1, k1, f1, l1, h1, hm⟩
  have hk1 := @LX.keep (LFr.from w A) _ _ _ _ _ _ _ _ _ _ _ _ _ _ _ _ _ _ _ _ _ h1
  have hn1 := @LX.nf (LFr.from w A) _ _ _ _ _ _ _ _ _ _ _ _ _ _ _ _ _ _ _ _ _ h1
  have hkA : Keep A w w' := hn1.1
  have hown := (@LX.heap (LFr.from w A) _ _ _ _ _ _ _ _ _ _ _ _ _ _ _ _ _ _ _ _ _ h1).own
  have hlt := @LX.own_lt (LFr.from w A) _ _ _ _ _ _ _ _ _ _ _ _ _ _ _ _ _ _ _ _ _ h1
  have hE2 := led_of (edSet_right hx hy g3) (edSet_pos hx hy g4)
  have hxv : es[x].v = (u : Int) := by simpa [List.getD, List.getElem?_eq_getElem hx] using hgu
  have hL0 : LOk n s (nes (edSet es x y)) c l (fun z => z = u) := by
    rw [edSet_is hx]
    have h9 := lok_edit g10 hx y
    have e9 : (es[x].v).toNat = u := by rw [hxv]; simp
    rw [e9] at h9
    exact h9
  obtain ⟨m1, m2, m3, m4⟩ := mend_holds (D := fun z => z = u) (D' := fun _ => False) hE2 hL0 (g11.mono (fun z hz => hz.elim)) g9 hu (fun z hz => .inr hz) hm
  have hT2 := g2.edit x hx y
  rw [← edSet_is hx] at hT2
  have hle : (edSet es x y).length = es.length := edSet_len es x y
  refine ⟨rfl, l1, q1, ⟨gc, gl, gh, cc, cl, I, O, ec, ae, lo1, hi1, lo2, hi2, a1, k1, f1, wS, by rw [hle]; exact h1.rebase (Keep.refl (fun _ => False) w') (fun _ _ e => e) rfl hk1 (lnf_true _), by rw [hle]; exact hT2, edSet_right hx hy g3, edSet_pos hx hy g4, by rw [hle]; exact g5, g6, g7, g8, m3, m1, m2, fun j hj => ?_, g13, fun j hj => ?_⟩, hkA, m4⟩
  · rw [hle] at hj
    rcases hn1.2 j hj with h | h
    · exact .inl h
    · refine .inr ⟨h, ?_⟩
      rcases hj with hj | hj
      · exact Nat.lt_of_lt_of_le (hlt hj) hk1.size
      · exact (hown.block_lt j hj).2
  · rcases hj with hj | hj
    · exact Nat.lt_of_lt_of_le (g14 j hj) hkA.size
    · exact hj.2
theorem lpl_net (hO : LPl n s t es c l q wk pb A C w) :
    Calls Try.prog 51 #[.pointer (some ⟨pb, 0, none⟩)] w fun e w' => ∃ a k, e = .returned (.agg #[.int .i64 (n : Int), .slice a es.length k]) ∧ Own encE 3 34 w' w.heap.size (.slice a es.length k) es ∧ Below w.heap.size w w' := by
  obtain ⟨gc, gl, gh, cc, cl, I, O, ec, ae, lo1, hi1, lo2, hi2, a0, qc, f, wS, g1, g2, g3, g4, g5, g6, g7, g8, g9, g10, g11, g12, g13, g14⟩ := hO
  have c0 := @LX.c0 (LFr.from w (fun _ => True)) _ _ _ _ _ _ _ _ _ _ _ _ _ _ _ _ _ _ _ _ _ g1
  have c1 := @LX.c1 (LFr.from w (fun _ => True)) _ _ _ _ _ _ _ _ _ _ _ _ _ _ _ _ _ _ _ _ _ g1
  have eo := @LX.eo (LFr.from w (fun _ => True)) _ _ _ _ _ _ _ _ _ _ _ _ _ _ _ _ _ _ _ _ _ g1
  obtain ⟨ae', ec', hv, hrow, -⟩ := eo.row lenE
  simp only [Value.slice.injEq] at hv
  obtain ⟨rfl, -, rfl⟩ := hv
  have hCp := hide (fun (w' : World) (hb : Below w.heap.size w w') => copy_any (n : Int) ae ec es w' w.heap.size hb.size (hrow.below hb (Nat.le_refl _)) (by omega))
  obtain ⟨m, hm⟩ : ∃ m, m = es.length := ⟨_, rfl⟩
  rw [← hm] at hCp c1 ⊢
  have zb := cell_lt c1
  simp only at zb
  replace hm := hide hm
  clear g1 g2 g3 g4 g5 g6 g7 g8 g9 g10 g11 g12 g13 g14 eo hrow
  go_enter Try.func51, Try.ntmps51
  go_wp2_with fail
  refine (hCp.out _ (by exact (by repeat (first | with_reducible exact Below.refl _ _ | with_reducible assumption | with_reducible refine up_drewN ?_ | with_reducible refine up_drew ?_ | (with_reducible refine up_alloc ?_ ?_; rotate_left; (first | omega | (simp <;> omega) | simp)) | (with_reducible refine up_set ?_ ?_; rotate_left; (first | omega | (simp <;> omega) | simp)) | (with_reducible refine Below.trans ?_ (Below.mono (by with_reducible assumption) ?_); rotate_left; (first | omega | (simp <;> omega) | simp)))))).mono ?_
  rintro e w2 ⟨v2, rfl, eo2, hb2⟩
  obtain ⟨a2, k2, rfl⟩ := eo2.shape hm.out.symm
  have r0 := cu_below hb2 (p := ⟨w.heap.size, 0, none⟩) (v := .int .i64 0) (by simp [go_sem]) (by simp)
  have r1 := cu_below hb2 (p := ⟨w.heap.size, 1, none⟩) (v := .slice none 0 0) (by simp [go_sem]) (by simp)
  have f0 := fu_below hb2 (p := ⟨w.heap.size, 0, none⟩) (by simp [go_sem]) (by simp)
  have f1 := fu_below hb2 (p := ⟨w.heap.size, 1, none⟩) (by simp [go_sem]) (by simp)
  have hz2 : w.heap.size < w2.heap.size := cell_lt r0
  have hb3 := hide ((((by repeat (first | with_reducible exact Below.refl _ _ | with_reducible assumption | with_reducible refine up_drewN ?_ | with_reducible refine up_drew ?_ | (with_reducible refine up_alloc ?_ ?_; rotate_left; (first | omega | (simp <;> omega) | simp)) | (with_reducible refine up_set ?_ ?_; rotate_left; (first | omega | (simp <;> omega) | simp)) | (with_reducible refine Below.trans ?_ (Below.mono (by with_reducible assumption) ?_); rotate_left; (first | omega | (simp <;> omega) | simp)))) : Below w.heap.size w _)).trans (hb2.mono (by simp)))
  have hne : (Value.slice a2 m k2).ownBlock ≠ some w.heap.size := fun e => by have := (eo2.block_lt _ e).1; simp at this; omega
  have eo3 := hide (((eo2.elsewhere (p := ⟨w.heap.size, 0, none⟩) hne (.int .i64 (n : Int))).elsewhere (p := ⟨w.heap.size, 1, none⟩) hne (.slice a2 m k2)).base_le (show w.heap.size ≤ _ by simp))
  have hb4 := hide ((hb3.out.setCell (p := ⟨w.heap.size, 0, none⟩) (Nat.le_refl _) (.int .i64 (n : Int))).setCell (p := ⟨w.heap.size, 1, none⟩) (Nat.le_refl _) (.slice a2 m k2))
  clear hCp hb2 eo2 hne
  go_wp2
  refine bodyPost_ret (v := .agg #[.int .i64 (n : Int), .slice a2 m k2]) (by simp [results, Try.results51, go_sem, r0, r1, hz2]) rfl ?_
  exact ⟨a2, k2, rfl, eo3.out, hb4.out⟩
theorem lpl_work (hO : LPl n s t es c l q wk pb A C w) :
    Calls Try.prog 46 #[.pointer (some ⟨pb, 0, none⟩)] w fun e w' => e = .returned (.int .i64 (wk : Int)) ∧ w' = w := by
  obtain ⟨gc, gl, gh, cc, cl, I, O, ec, ae, lo1, hi1, lo2, hi2, a0, qc, f, wS, g1, g2, g3, g4, g5, g6, g7, g8, g9, g10, g11, g12, g13, g14⟩ := hO
  have c9 := @LX.c9 (LFr.from w (fun _ => True)) _ _ _ _ _ _ _ _ _ _ _ _ _ _ _ _ _ _ _ _ _ g1
  have zb := cell_lt c9
  simp only at zb
  clear g1 g2 g3 g4 g5 g6 g7 g8 g9 g10 g11 g12 g13 g14
  go_enter Try.func46, Try.ntmps46
  go_wp2
  go_ret
  exact ⟨rfl, rfl⟩
end
end Go.Proofs.Ytcehdpeeaogpiaa
