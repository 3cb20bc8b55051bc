/-
  What yen.onward returns: the least way that goes on from a beginning. Conditions: a right net of costs above 0, a beginning that is a walk over places each once, bounds.
-/
import Derived.Test.YtcehdpeeaogpiaaYenD
import Derived.Test.YtcehdpeeaogpiaaYenL
import Derived.Test.YtcehdpeeaogpiaaListI
import Derived.Test.YtcehdpeeaogpiaaClone
import Derived.Test.YtcehdpeeaogpiaaDijkW
import Derived.Test.YtcehdpeeaogpiaaWWalkCosts
import Derived.Test.YtcehdpeeaogpiaaQuietH
import Derived.BigRegion
namespace Go.Proofs.Ytcehdpeeaogpiaa
open Go.RowKit
set_option linter.unusedSimpArgs false
set_option linter.unusedVariables false
/-- a net whose edges grow, at block p, laid in the world w0 -/
structure GN (eo : TypeId) (p : Nat) (N : Int) (w0 : World) (v : Value) (xs : List Ed) (wr : World) : Prop where
  c0 : wr.cell? ⟨p, 0, none⟩ = some (.int .i64 N)
  c1 : wr.cell? ⟨p, 1, none⟩ = some v
  f1 : wr.frozen? ⟨p, 1, none⟩ = false
  own : Own encE 3 eo wr (p + 1) v xs
  kp : Below w0.heap.size w0 wr
  at0 : p = w0.heap.size
section
variable {eo : TypeId} {p : Nat} {N : Int} {w0 wr w' : World} {v v' : Value} {xs : List Ed} {y : Ed}
theorem GN.lt (h : GN eo p N w0 v xs wr) : p < wr.heap.size := cell_lt h.c0
theorem GN.stays (h : GN eo p N w0 v xs wr) (b : Below wr.heap.size wr w') : GN eo p N w0 v xs w' :=
  have hl := h.lt
  ⟨cu_below b h.c0 hl, cu_below b h.c1 hl, fu_below b h.f1 hl, h.own.stays b, h.kp.trans (b.mono h.kp.size), h.at0⟩
theorem GN.drewN (h : GN eo p N w0 v xs wr) (n : Nat) : GN eo p N w0 v xs (wr.drewN n) := h.stays (up_drewN (Below.refl _ _))
theorem GN.alloc (h : GN eo p N w0 v xs wr) (o : Obj) : GN eo p N w0 v xs (wr.alloc o) := h.stays (up_alloc (Below.refl _ _) (Nat.le_refl _))
theorem GN.push (h : GN eo p N w0 v xs wr) (own : Own encE 3 eo w' (p + 1) v' (xs ++ [y])) (b : Below (p + 1) wr w') : GN eo p N w0 v' (xs ++ [y]) (w'.setCell ⟨p, 1, none⟩ v') := by
  have hl := h.lt
  have h0 := h.at0
  refine ⟨cu_set_off (cu_below b h.c0 (by simp)) (by omega), World.cell?_setCell_same _ _ _ (cu_below b h.c1 (by simp)), fu_set (fu_below b h.f1 (by simp)), own.setCell (by simp) _, ?_, h0⟩
  exact (h.kp.trans (b.mono (by omega))).setCell (by simp; omega) _
theorem GN.fresh {t : TypeId} (w0 : World) (h : p = w0.heap.size) : GN eo p N w0 (.slice none 0 0) [] (w0.alloc (.cells #[.int .i64 N, .slice none 0 0] t)) := by
  subst h
  exact ⟨by simp [go_sem], by simp [go_sem], by simp [go_sem], Own.nil _ _, up_alloc (Below.refl _ _) (Nat.le_refl _), rfl⟩
end
/-- the slice holds y or not -/
def CC (w : World) (an : Option Addr) (m cn : Nat) (y : Int) (b : Bool) : Prop := ∃ xs : List Int, xs.length = m ∧ m ≤ 1000000 ∧ Row encI 1 w w.heap.size an xs ∧ b = decide (y ∈ xs)
theorem cc_any {w : World} (an : Option Addr) (m cn : Nat) (y : Int) (b : Bool) (h : CC w an m cn y b) (k : Nat) : Calls Try.prog 114 #[.slice an m cn, .int .i64 y] (w.drewN k) fun e w' => e = .returned (.bool b) ∧ w' = w.drewN k := by
  obtain ⟨xs, h1, h2, h3, h4⟩ := h
  subst h4
  exact contI_any y an cn m xs (w.drewN k) w.heap.size h1 h3 h2
theorem ni_mem {v : Nat} {p : List Nat} {y : Int} (hy : y = (v : Int)) : y ∈ NI p ↔ v ∈ p := by
  subst hy
  unfold NI
  rw [List.mem_map]
  constructor
  · rintro ⟨x, hx, h⟩
    have : x = v := by omega
    rwa [← this]
  · intro h
    exact ⟨v, h, rfl⟩
/-- an edge is kept: as the code asks -/
theorem keep_is {e : Ed} {b0 no : List Nat} {u fu tv : Nat} (h1 : e.u = (fu : Int)) (h2 : e.v = (tv : Int)) {c1 c2 c3 : Bool} (q1 : c1 = decide (e.v ∈ NI (b0 ++ [u]))) (q2 : c2 = decide (e.u ∈ NI b0)) (q3 : c3 = decide (e.v ∈ NI no)) :
    keepB b0 u no e = !(c1 || c2 || ((e.u == (u : Int)) && c3)) := by
  have e1 : c1 = (b0 ++ [u]).contains tv := by rw [q1]; simp only [ni_mem h2, List.contains_eq_mem]
  have e2 : c2 = b0.contains fu := by rw [q2]; simp only [ni_mem h1, List.contains_eq_mem]
  have e3 : c3 = no.contains tv := by rw [q3]; simp only [ni_mem h2, List.contains_eq_mem]
  have e4 : (e.u == (u : Int)) = (fu == u) := by
    rw [h1]
    by_cases h : fu = u
    · subst h; simp
    · rw [beq_eq_false_iff_ne.2 h, beq_eq_false_iff_ne.2 (by omega)]
  unfold keepB
  rw [e1, e2, e3, e4, h1, h2]
  simp
/-- the least place that a best step leads to -/
def nxF (R : List Ed) (D : Nat → Int) (u : Nat) (n : Int) : Int := R.foldl (fun m e => if e.u = (u : Int) ∧ D e.v.toNat < FAR ∧ e.c + D e.v.toNat = D u then min m e.v else m) n
theorem nxF_fold {D : Nat → Int} {u : Nat} : ∀ (R : List Ed) (n : Int), nxF R D u n ≤ n ∧ (∀ e ∈ R, e.u = (u : Int) → D e.v.toNat < FAR → e.c + D e.v.toNat = D u → nxF R D u n ≤ e.v) ∧ (nxF R D u n = n ∨ ∃ e ∈ R, e.u = (u : Int) ∧ D e.v.toNat < FAR ∧ e.c + D e.v.toNat = D u ∧ e.v = nxF R D u n)
  | [], n => ⟨Int.le_refl _, by simp, .inl rfl⟩
  | x :: r, n => by
    unfold nxF
    simp only [List.foldl_cons]
    by_cases q : x.u = (u : Int) ∧ D x.v.toNat < FAR ∧ x.c + D x.v.toNat = D u
    · rw [if_pos q]
      obtain ⟨h1, h2, h3⟩ := nxF_fold (D := D) (u := u) r (min n x.v)
      unfold nxF at h1 h2 h3
      refine ⟨by omega, fun e he h4 h5 h6 => ?_, ?_⟩
      · rcases List.mem_cons.1 he with rfl | he
        · omega
        · exact h2 e he h4 h5 h6
      · rcases h3 with h3 | ⟨e, he, h4⟩
        · rcases Int.le_total n x.v with hh | hh
          · left; rw [h3]; omega
          · right; exact ⟨x, List.mem_cons_self .., q.1, q.2.1, q.2.2, by rw [h3]; omega⟩
        · right; exact ⟨e, List.mem_cons_of_mem _ he, h4⟩
    · rw [if_neg q]
      obtain ⟨h1, h2, h3⟩ := nxF_fold (D := D) (u := u) r n
      unfold nxF at h1 h2 h3
      refine ⟨h1, fun e he h4 h5 h6 => ?_, ?_⟩
      · rcases List.mem_cons.1 he with rfl | he
        · exact absurd ⟨h4, h5, h6⟩ q
        · exact h2 e he h4 h5 h6
      · rcases h3 with h3 | ⟨e, he, h4⟩
        · exact .inl h3
        · exact .inr ⟨e, List.mem_cons_of_mem _ he, h4⟩
theorem nxF_is {n : Nat} {R : List Ed} (hR : Right n R) {D : Nat → Int} {u v : Nat} (hv : Tgt (nes R) D u v) (hm : ∀ x, Tgt (nes R) D u x → v ≤ x) : nxF R D u n = v := by
  obtain ⟨h1, h2, h3⟩ := nxF_fold (D := D) (u := u) R n
  have toT : ∀ e ∈ R, e.u = (u : Int) → D e.v.toNat < FAR → e.c + D e.v.toNat = D u → Tgt (nes R) D u e.v.toNat := fun e he q1 q2 q3 => ⟨q2, ⟨e.u.toNat, e.v.toNat, e.c⟩, List.mem_map.2 ⟨e, he, rfl⟩, by simp [q1], rfl, q3⟩
  obtain ⟨g1, e, he, g2, g3, g4⟩ := hv
  obtain ⟨x, hx, rfl⟩ := nes_mem he
  have hr := hR x hx
  simp only at g2 g3 g4
  have := h2 x hx (by omega) (by rw [g3]; exact g1) (by rw [g3]; exact g4)
  have hle : nxF R D u n ≤ v := by omega
  rcases h3 with h3 | ⟨y, hy, q1, q2, q3, q4⟩
  · have : (v : Int) < n := by omega
    omega
  · have := hm _ (toT y hy q1 q2 q3)
    have := hR y hy
    omega
theorem nxF_take {R : List Ed} {D : Nat → Int} {u : Nat} {n : Int} {k : Nat} (h : k < R.length) : nxF (R.take (k + 1)) D u n = if R[k].u = (u : Int) ∧ D R[k].v.toNat < FAR ∧ R[k].c + D R[k].v.toNat = D u then min (nxF (R.take k) D u n) R[k].v else nxF (R.take k) D u n := by
  unfold nxF
  rw [List.take_succ_eq_append_getElem h, List.foldl_append]
  rfl
theorem filter_take {R : List Ed} {q : Ed → Bool} {k : Nat} (h : k < R.length) : (R.take (k + 1)).filter q = if q R[k] = true then (R.take k).filter q ++ [R[k]] else (R.take k).filter q := by
  rw [List.take_succ_eq_append_getElem h, List.filter_append, List.filter_cons]
  by_cases hq : q R[k] = true
  · rw [if_pos hq, if_pos hq]; rfl
  · rw [if_neg hq, if_neg hq]; simp
/-- what a way costs, as walk.Cost says -/
theorem wcRest_p {es : List Ed} (hp : ∀ e ∈ es, e.c ≤ 10000) : ∀ (p : List Nat) (s : Int), Lnk (nes es) p → (∀ e ∈ es, 0 ≤ e.u ∧ 0 ≤ e.v) → wcRest es (NI p) s = (s + pcost es p, 0)
  | [], s, _, _ => by simp [NI, wcRest, pcost]
  | [a], s, _, _ => by simp [NI, wcRest, pcost]
  | a :: b :: r, s, h, hz => by
    have ih := wcRest_p hp (b :: r) (s + minE (a : Int) (b : Int) es) h.2 hz
    have hne : minE (a : Int) (b : Int) es ≠ 1099511627776 := by
      obtain ⟨e, he, h1, h2⟩ := h.1
      obtain ⟨x, hx, rfl⟩ := nes_mem he
      have hz := hz x hx
      have := hp x hx
      have := (minE_fold (a : Int) (b : Int) es 1099511627776).2.1 x hx (by simp only at h1; omega) (by simp only at h2; omega)
      change minE (a : Int) (b : Int) es ≤ x.c at this
      omega
    simp only [NI, List.map_cons] at ih ⊢
    rw [wcRest, if_neg hne, ih, pcost]
    congr 1
    omega
theorem wcost_p {n : Nat} {es : List Ed} (h0 : netErr (n : Int) es = 0) {p : List Nat} (hl : Lnk (nes es) p) (hv : ∀ v ∈ p, v < n) (h1 : 0 < p.length) (h2 : p.length ≤ 100) : wcost (n : Int) es (NI p) = (pcost es p, 0) := by
  obtain ⟨n1, n2, n3, n4⟩ := netErr_ok h0
  unfold wcost
  rw [if_neg (by simpa using h0), if_neg (by rw [ni_len]; omega), if_neg (by rw [ni_len]; omega), if_neg, wcRest_p (fun e he => (n4 e he).2.2.2.2.2) p 0 hl (fun e he => ⟨(n4 e he).1, (n4 e he).2.2.1⟩), Int.zero_add]
  simp only [List.any_eq_true, not_exists, not_and]
  intro x hx
  obtain ⟨v, hv2, rfl⟩ := List.mem_map.1 hx
  have := hv v hv2
  simp [badAt]
  omega
theorem pb_own {e : TypeId} {w : World} {base : Nat} {a : Option Addr} {n c : Nat} {p : List Nat} (k : Int) (h : Own encI 1 e w base (.slice a n c) (NI p)) : PB w ⟨a, n, c, k, p⟩ ∧ ∀ ad, a = some ad → base ≤ ad.block := by
  obtain ⟨a', c', hv, hr, h1, h2⟩ := h.row lenI
  injection hv with q1 q2 q3
  subst q1 q3
  refine ⟨⟨by rw [q2, ni_len], by simp only; omega, by unfold maxLen at h2; exact h2, hr⟩, fun ad had => ?_⟩
  rcases h.form with ⟨h3, _⟩ | ⟨g, cap, h3, h4, _⟩
  · injection h3 with q4; rw [q4] at had; cases had
  · injection h3 with q4; rw [q4] at had; cases had; exact h4
/-- what onward returns -/
def OnwBack (n : Nat) (es : List Ed) (t : Nat) (b0 : List Nat) (u : Nat) (no : List Nat) (w : World) (e : Ending) (w' : World) : Prop :=
  Below w.heap.size w w' ∧ ((FAR ≤ restD n es t b0 u no u ∧ e = .returned (.tuple #[.agg #[.slice none 0 0, .int .i64 0], .bool false])) ∨
    (restD n es t b0 u no u < FAR ∧ ∃ (g : List Nat) (x : Yv), Grd (nes (es.filter (keepB b0 u no))) (restD n es t b0 u no) t u g ∧ x.p = b0 ++ u :: g ∧ x.k = pcost es x.p ∧ e = .returned (.tuple #[.agg #[.slice x.a x.n x.c, .int .i64 x.k], .bool true]) ∧ PB w' x ∧ ∀ ad, x.a = some ad → w.heap.size ≤ ad.block))
set_option maxRecDepth 100000 in
set_option maxHeartbeats 4000000 in
theorem onward_any (n : Nat) (a : Option Addr) (cap : Nat) (es : List Ed) (ab : Option Addr) (m cb : Nat) (b0 : List Nat) (u t s : Nat) (an : Option Addr) (q cn : Nat) (no : List Nat) (w : World) (B : Nat) (hB : B ≤ w.heap.size) (hE : Row encE 3 w B a es) (hbR : Row encI 1 w B ab (NI (b0 ++ [u]))) (hnR : Row encI 1 w B an (NI no))
    (hm : b0.length + 1 = m) (hq : no.length = q) (hq2 : q ≤ 1000) (h0 : netErr (n : Int) es = 0) (hp : ∀ e ∈ es, 1 ≤ e.c) (hs : s < n) (ht : t < n) (hmc : m ≤ cb) (hcb : cb ≤ 9223372036854775807) (hh : ∃ r, b0 ++ [u] = s :: r) (hd : (b0 ++ [u]).Nodup) (hl : Lnk (nes es) (b0 ++ [u])) :
    Calls Try.prog 148 #[.agg #[.int .i64 (n : Int), .slice a es.length cap], .slice ab m cb, .int .i64 (t : Int), .slice an q cn] w (OnwBack n es t b0 u no w) := by
  obtain ⟨n1, n2, n3, n4⟩ := netErr_ok h0
  have hes : Right n es := fun e he => by have := n4 e he; omega
  -- the beginning: at most 64 places
  have hvu : u < n ∧ m ≤ 64 := by
    have key : ∀ (q : List Nat) (a : Nat), a < n → Lnk (nes es) (a :: q) → ∀ v ∈ a :: q, v < n := by
      intro q
      induction q with
      | nil => intro a ha _ v hv; simp at hv; omega
      | cons b q ih =>
        intro a ha hl v hv
        obtain ⟨⟨e, he, h1, h2⟩, h3⟩ := hl
        have := nes_right hes e he
        rcases List.mem_cons.1 hv with rfl | hv
        · exact ha
        · exact ih b (by omega) h3 v hv
    obtain ⟨r, hr⟩ := hh
    have hall : ∀ v ∈ b0 ++ [u], v < n := by
      rw [hr] at hl ⊢
      exact key r s hs hl
    have h1 := nodup_fits hd hall
    have h2 := hall u (by simp)
    simp at h1
    omega
  obtain ⟨hu, hm64⟩ := hvu
  obtain ⟨R, hR⟩ : ∃ R, R = es.filter (keepB b0 u no) := ⟨_, rfl⟩
  obtain ⟨D, hD⟩ : ∃ D, D = restD n es t b0 u no := ⟨_, rfl⟩
  have hRr : Right n R := by rw [hR]; exact right_filter _ hes
  have hRl : R.length ≤ es.length := by rw [hR]; exact List.length_filter_le _ _
  have hDok : DOk (nes R) t D := by rw [hR, hD]; exact rest_dok hes hp ht b0 u no
  have hDlow : ∀ v, D v ≤ FAR := by
    intro v
    rw [hD]
    exact Int.le_trans (spread_le _ _ _ v) (stF_far t v)
  -- cells of the beginning
  have hat := hide (show ∃ b o, ab = some ⟨b, o, none⟩ ∧ b < B ∧ w.cell? ⟨b, o + b0.length, none⟩ = some (.int .i64 (u : Int)) from by
    obtain ⟨b, o, e1, e2, e3⟩ := hbR.int b0.length (by rw [ni_len]; simp)
    refine ⟨b, o, e1, e2, ?_⟩
    rw [e3]
    simp [NI])
  have hwm : IntKind.i64.wrap ((m : Int) - 1) = (m : Int) - 1 := by rw [IntKind.wrap_i64]; omega
  have hm2 : ((m : Int) - 1).toNat = b0.length := by omega
  have hm3 : (0 : Int) ≤ (m : Int) - 1 ∧ (m : Int) - 1 < (m : Int) := by omega
  have hm4 : (0 : Int) ≤ (m : Int) - 1 := by omega
  have hm5 : (m : Int) - 1 ≤ (cb : Int) := by omega
  have hm6 : (1 : Int) ≤ (m : Int) := by omega
  have hmm := hide hm
  have hE' := hide hE
  replace hbR := hide hbR
  replace hnR := hide hnR
  replace hR := hide hR
  replace hD := hide hD
  replace hes := hide hes
  replace hp := hide hp
  replace h0 := hide h0
  replace hm := hide hm
  replace hq := hide hq
  clear hE
  obtain ⟨bb, ob, rfl, hbB, hcu⟩ := hat.out
  have hbs : bb < w.heap.size := by omega
  go_enter Try.func148, Try.ntmps148
  go_wp2
  obtain ⟨W0, hW0⟩ : ∃ W0, W0 = (w.alloc (.cells #[.int .i64 n, .slice a es.length cap] 24)).alloc (.cells #[.slice none 0 0, .int .i64 0] 36) := ⟨_, rfl⟩
  have hz0 : W0.heap.size = w.heap.size + 1 + 1 := by rw [hW0]; simp
  have hB0 := hide (show Below w.heap.size w W0 by rw [hW0]; exact (by repeat (first | with_reducible exact Below.refl _ _ | with_reducible assumption | with_reducible refine up_drewN ?_ | with_reducible refine up_drew ?_ | (with_reducible refine up_alloc ?_ ?_; rotate_left; (first | omega | (simp <;> omega) | simp)) | (with_reducible refine up_set ?_ ?_; rotate_left; (first | omega | (simp <;> omega) | simp)) | (with_reducible refine Below.trans ?_ (Below.mono (by with_reducible assumption) ?_); rotate_left; (first | omega | (simp <;> omega) | simp)))))
  have g0 := hide (show W0.cell? ⟨w.heap.size, 0, none⟩ = some (.int .i64 n) ∧ W0.cell? ⟨w.heap.size, 1, none⟩ = some (.slice a es.length cap) ∧ W0.cell? ⟨w.heap.size + 1, 0, none⟩ = some (.slice none 0 0) ∧ W0.cell? ⟨w.heap.size + 1, 1, none⟩ = some (.int .i64 0) ∧ (∀ o, W0.frozen? ⟨w.heap.size + 1, o, none⟩ = false) from by
    rw [hW0]
    exact ⟨by simp [go_sem], by simp [go_sem], by simp [go_sem], by simp [go_sem], fun o => by simp [go_sem]⟩)
  have hgn := hide (GN.fresh (eo := 34) (p := w.heap.size + 1 + 1) (N := (n : Int)) (t := 24) W0 hz0.symm)
  simp only [← hW0]
  replace hW0 := hide hW0
  have hccA := hide (fun (w' : World) => @cc_any w')
  go_loopw [36] (fun i wr => ∃ (k : Nat) (v : Value), k ≤ es.length ∧ i = .int .i64 k ∧ Hid (GN 34 (w.heap.size + 1 + 1) n W0 v ((es.take k).filter (keepB b0 u no)) wr)) (fun i _ => es.length - (intOf i).toNat)
  case atStart => exact ⟨0, _, Nat.zero_le _, rfl, hgn⟩
  case round =>
    obtain ⟨k, v, hk, rfl, hG⟩ := hrel
    by_cases hlt : k < es.length
    · obtain ⟨fu, tv, e1, e2, e3, e4, -⟩ := right_edge hes.out k hlt
      have hbw := hide (hB0.out.trans (hG.out.kp.mono (by omega)))
      obtain ⟨b, o, rfl, hbB2, d0, d1, d2⟩ := (hE'.out.below hbw.out hB).ed k hlt
      obtain ⟨xu, hxu⟩ : ∃ z, z = es[k].u := ⟨_, rfl⟩
      obtain ⟨xv, hxv⟩ : ∃ z, z = es[k].v := ⟨_, rfl⟩
      obtain ⟨xc, hxc⟩ : ∃ z, z = es[k].c := ⟨_, rfl⟩
      have hx := hide (show es[k] = ⟨xu, xv, xc⟩ by rw [hxu, hxv, hxc])
      rw [← hxu] at d0 e1
      rw [← hxv] at d1 e2
      rw [← hxc] at d2
      clear hxu hxv hxc
      obtain ⟨c1, hc1⟩ : ∃ c1, c1 = decide (xv ∈ NI (b0 ++ [u])) := ⟨_, rfl⟩
      obtain ⟨c2, hc2⟩ : ∃ c2, c2 = decide (xu ∈ NI b0) := ⟨_, rfl⟩
      obtain ⟨c3, hc3⟩ : ∃ c3, c3 = decide (xv ∈ NI no) := ⟨_, rfl⟩
      have hke := hide (keep_is (e := ⟨xu, xv, xc⟩) e1 e2 hc1 hc2 hc3)
      have hft := hide (filter_take (q := keepB b0 u no) hlt)
      rw [hx.out] at hft
      obtain ⟨WA, hWA⟩ : ∃ WA, WA = wr.alloc (.cells #[.int .i64 xu, .int .i64 xv, .int .i64 xc] 34) := ⟨_, rfl⟩
      have hbA : Below wr.heap.size wr WA := by rw [hWA]; exact up_alloc (Below.refl _ _) (Nat.le_refl _)
      have hbwA := hbw.out.trans (hbA.mono hbw.out.size)
      have cc1 : CC WA (some ⟨bb, ob, none⟩) m cb xv c1 := ⟨_, by rw [ni_len, List.length_append]; exact hm.out, by omega, (hbR.out.below hbwA hB).mono (by have := hbwA.size; omega), hc1⟩
      have cc2 : CC WA (some ⟨bb, ob, none⟩) b0.length cb xu c2 := ⟨NI b0, ni_len _, by have := hm.out; omega, fun i hi => by
        have hi2 : i < (NI (b0 ++ [u])).length := by rw [ni_len] at hi ⊢; rw [List.length_append]; omega
        obtain ⟨b', o', q1, q2, q3⟩ := ((hbR.out.below hbwA hB).mono (show B ≤ WA.heap.size by have := hbwA.size; omega)) i hi2
        refine ⟨b', o', q1, q2, fun j u' hj => q3 j u' ?_⟩
        rw [← hj]
        congr 2
        unfold NI at hi ⊢
        simp at hi
        simp [hi], hc2⟩
      have cc3 : CC WA an q cn xv c3 := ⟨_, by rw [ni_len]; exact hq.out, by omega, (hnR.out.below hbwA hB).mono (by have := hbwA.size; omega), hc3⟩
      have hGA := hide (fun (j : Nat) => (hG.out.stays hbA).drewN j)
      have hcA := hide (show WA.cell? ⟨wr.heap.size, 0, none⟩ = some (.int .i64 xu) ∧ WA.cell? ⟨wr.heap.size, 1, none⟩ = some (.int .i64 xv) ∧ WA.cell? ⟨wr.heap.size, 2, none⟩ = some (.int .i64 xc) from by rw [hWA]; exact ⟨by simp [go_sem], by simp [go_sem], by simp [go_sem]⟩)
      obtain ⟨ca0, ca1, ca2⟩ := hcA.out
      have hzA : WA.heap.size = wr.heap.size + 1 := by rw [hWA]; simp
      have hzA2 : wr.heap.size < WA.heap.size := by omega
      have hcc := hide (fun an m cn y b h k => hccA.out WA an m cn y b h k)
      replace hc1 := hide hc1
      replace hc2 := hide hc2
      replace hc3 := hide hc3
      replace e1 := hide e1
      replace e2 := hide e2
      have ik : (0 : Int) ≤ (k : Int) ∧ (k : Int) < (es.length : Int) := by omega
      have hwW : IntKind.i64.wrap ((k : Int) + 1) = (k : Int) + 1 := by rw [IntKind.wrap_i64]; omega
      clear hat hbR hnR hh hl hd n4 hE'
      go_wp2_with fail
      simp only [← hWA]
      replace hWA := hide hWA
      -- kept or not
      have drop : ∀ {K : Bool}, K = false → keepB b0 u no ⟨xu, xv, xc⟩ = K → Hid ((es.take (k + 1)).filter (keepB b0 u no) = (es.take k).filter (keepB b0 u no)) := fun h1 h2 => hide (by rw [hft.out, if_neg (by rw [h2, h1]; simp)])
      have keep : ∀ {K : Bool}, K = true → keepB b0 u no ⟨xu, xv, xc⟩ = K → Hid ((es.take (k + 1)).filter (keepB b0 u no) = (es.take k).filter (keepB b0 u no) ++ [⟨xu, xv, xc⟩]) := fun h1 h2 => hide (by rw [hft.out, if_pos (by rw [h2, h1])])
      have hcase : c1 = true ∨ (c1 = false ∧ c2 = true) ∨ (c1 = false ∧ c2 = false ∧ (xu == (u : Int)) = true ∧ c3 = true) ∨ (c1 = false ∧ c2 = false ∧ (xu == (u : Int)) = true ∧ c3 = false) ∨ (c1 = false ∧ c2 = false ∧ (xu == (u : Int)) = false) := by
        cases c1 <;> cases c2 <;> cases c3 <;> cases (xu == (u : Int)) <;> simp
      have hke' := hke.out
      clear hft hke
      rcases hcase with rfl | ⟨rfl, rfl⟩ | ⟨rfl, rfl, q3, rfl⟩ | ⟨rfl, rfl, q3, rfl⟩ | ⟨rfl, rfl, q3⟩
      · have hdr := drop (by simp) hke'
        clear keep drop hke'
        (refine wp_region_quiet_hid (by kernel_rfl) (by kernel_rfl) (fun wq hst hni => ?_); (repeat (refine hst.out _ _ _ _ (fun K hK => ?_); go_simp; first | (refine hK.out _ ?_; clear hK K) | (apply Exists.intro; refine ⟨fun _ => ?_, hK.out _ ?_⟩; (go_at_call 114; exact Calls.quiet_of_same (hcc.out _ _ _ _ _ (by assumption) _)); clear hK K))); refine hni.out _ _ ?_; clear hst hni wq; intro wqq hw'; obtain ⟨nq, hw''⟩ := hw'; subst hw'')
        go_wp2
        go_roundw
        case rel => exact ⟨k + 1, v, by omega, by go_num, by rw [hdr.out]; exact hide (hGA.out _)⟩
        case measure => simp [intOf]; omega
      · have hdr := drop (by simp) hke'
        clear keep drop hke'
        (refine wp_region_quiet_hid (by kernel_rfl) (by kernel_rfl) (fun wq hst hni => ?_); (repeat (refine hst.out _ _ _ _ (fun K hK => ?_); go_simp; first | (refine hK.out _ ?_; clear hK K) | (apply Exists.intro; refine ⟨fun _ => ?_, hK.out _ ?_⟩; (go_at_call 114; exact Calls.quiet_of_same (hcc.out _ _ _ _ _ (by assumption) _)); clear hK K))); refine hni.out _ _ ?_; clear hst hni wq; intro wqq hw'; obtain ⟨nq, hw''⟩ := hw'; subst hw'')
        go_wp2
        go_roundw
        case rel => exact ⟨k + 1, v, by omega, by go_num, by rw [hdr.out]; exact hide (hGA.out _)⟩
        case measure => simp [intOf]; omega
      · have hdr := drop (by simp [q3]) hke'
        clear keep drop hke'
        (refine wp_region_quiet_hid (by kernel_rfl) (by kernel_rfl) (fun wq hst hni => ?_); (repeat (refine hst.out _ _ _ _ (fun K hK => ?_); go_simp; first | (refine hK.out _ ?_; clear hK K) | (apply Exists.intro; refine ⟨fun _ => ?_, hK.out _ ?_⟩; (go_at_call 114; exact Calls.quiet_of_same (hcc.out _ _ _ _ _ (by assumption) _)); clear hK K))); refine hni.out _ _ ?_; clear hst hni wq; intro wqq hw'; obtain ⟨nq, hw''⟩ := hw'; subst hw'')
        go_wp2
        go_roundw
        case rel => exact ⟨k + 1, v, by omega, by go_num, by rw [hdr.out]; exact hide (hGA.out _)⟩
        case measure => simp [intOf]; omega
      all_goals
        have hkp := keep (by simp [q3]) hke'
        clear keep drop hke'
        (refine wp_region_quiet_hid (by kernel_rfl) (by kernel_rfl) (fun wq hst hni => ?_); (repeat (refine hst.out _ _ _ _ (fun K hK => ?_); go_simp; first | (refine hK.out _ ?_; clear hK K) | (apply Exists.intro; refine ⟨fun _ => ?_, hK.out _ ?_⟩; (go_at_call 114; exact Calls.quiet_of_same (hcc.out _ _ _ _ _ (by assumption) _)); clear hK K))); refine hni.out _ _ ?_; clear hst hni wq; intro wqq hw'; obtain ⟨nq, hw''⟩ := hw'; subst hw'')
        have hGx := hide (hGA.out nq)
        have ca0 := cu_drewN (n := nq) hcA.out.1
        have ca1 := cu_drewN (n := nq) hcA.out.2.1
        have ca2 := cu_drewN (n := nq) hcA.out.2.2
        have hzx := cell_lt ca0
        generalize WA.drewN nq = wx at hGx ca0 ca1 ca2 hzx ⊢
        obtain ⟨kk, hkk⟩ : ∃ kk, kk = ((es.take k).filter (keepB b0 u no)).length := ⟨_, rfl⟩
        have hkk2 : kk ≤ k := by rw [hkk]; exact Nat.le_trans (List.length_filter_le _ _) (by rw [List.length_take]; omega)
        obtain ⟨av, cv, rfl⟩ := hGx.out.own.shape hkk.symm
        replace hkk := hide hkk
        have y0 := hGx.out.c0
        have y1 := hGx.out.c1
        have yf := hGx.out.f1
        have hlx := hGx.out.lt
        clear hGA hcA hcc cc1 cc2 cc3 hG
        go_wp2_with (at_builtin; (refine wpList_push (e := 34) (enc := encE) (xs := ((es.take k).filter (keepB b0 u no))) (v := .slice av (kk) cv) (base := w.heap.size + 1 + 1 + 1) rfl (.tmp 67) (.tmp 69) 22 rfl _ 24 Try.underlying22 info_ed rfl ?d11 lenE oneE (kk) ?d21 ?d31 ?d41 ⟨wx.heap.size, 0, none⟩ 1 ⟨xu, xv, xc⟩ ?d51 ?d61 ?d71 ?d81 ?d91 ?_); (case d11 => omega); (case d21 => exact hkk.out.symm); (case d31 => rfl); (case d41 => exact (hGx.out.own.alloc _)); (case d51 => rfl); (case d61 => exact newE _ _ _ _ rfl); (case d71 => omega); (case d81 => unfold maxLen; omega); (case d91 => first | omega | (simp; done) | (simp; omega)); intro g1 c1 w1 own1 hb1 hgr1 hg1 hgl1; have hB1 := hide (unalloc hb1 (by omega)); replace own1 := hide own1; clear hgr1; have cc0 := cu_below hB1.out y0 (by simp); have cc1 := cu_below hB1.out y1 (by simp); have ff1 := fu_below hB1.out yf (by simp); have hl1 := cell_lt cc0; clear hb1)
        go_roundw
        case rel => exact ⟨k + 1, _, by omega, by go_num, hide (by rw [hkp.out]; exact hGx.out.push own1.out hB1.out)⟩
        case measure => simp [intOf]; omega
    · obtain rfl : k = es.length := by omega
      have hRe := hide (show (es.take es.length).filter (keepB b0 u no) = R by rw [List.take_length]; exact hR.out.symm)
      obtain ⟨W1, rfl⟩ : ∃ W1 : World, W1 = wr := ⟨_, rfl⟩
      have hG1 := hide (show GN 34 (w.heap.size + 1 + 1) n W0 v R W1 by rw [← hRe.out]; exact hG.out)
      obtain ⟨av, cv, rfl⟩ := hG1.out.own.shape (n := R.length) rfl
      have hbw := hide (hB0.out.trans (hG1.out.kp.mono (by omega)))
      have hz1 : w.heap.size + 1 + 1 < W1.heap.size := hG1.out.lt
      have hrow1 := hide (show Row encE 3 W1 W1.heap.size av R from by
        obtain ⟨a', c', hv, hr, _⟩ := hG1.out.own.row lenE
        injection hv with q1 q2 q3
        subst q1
        exact hr)
      have x0 : W1.cell? ⟨w.heap.size, 0, none⟩ = some (.int .i64 n) := cu_below hG1.out.kp g0.out.1 (by simp; omega)
      have y0 := hG1.out.c0
      have y1 := hG1.out.c1
      have hz2 : w.heap.size < W1.heap.size := by omega
      clear hgn hccA hG
      go_wp2_with fail
      have hgn2 := hide (GN.fresh (eo := 34) (p := W1.heap.size) (N := (n : Int)) (t := 24) W1 rfl)
      go_loopw [79] (fun i wr => ∃ (k : Nat) (v : Value), k ≤ R.length ∧ i = .int .i64 k ∧ Hid (GN 34 W1.heap.size n W1 v ((R.take k).map flip) wr)) (fun i _ => R.length - (intOf i).toNat)
      case atStart => exact ⟨0, _, Nat.zero_le _, rfl, hgn2⟩
      case round =>
        obtain ⟨k, v, hk, rfl, hG⟩ := hrel
        by_cases hlt : k < R.length
        · obtain ⟨b, o, rfl, hbB2, d0, d1, d2⟩ := (hrow1.out.below hG.out.kp (Nat.le_refl _)).ed k hlt
          obtain ⟨xu, hxu⟩ : ∃ z, z = R[k].u := ⟨_, rfl⟩
          obtain ⟨xv, hxv⟩ : ∃ z, z = R[k].v := ⟨_, rfl⟩
          obtain ⟨xc, hxc⟩ : ∃ z, z = R[k].c := ⟨_, rfl⟩
          have hx := hide (show (R.take (k + 1)).map flip = (R.take k).map flip ++ [⟨xv, xu, xc⟩] by rw [List.take_succ_eq_append_getElem hlt, List.map_append, hxu, hxv, hxc]; rfl)
          rw [← hxu] at d0
          rw [← hxv] at d1
          rw [← hxc] at d2
          clear hxu hxv hxc
          have hkk := hide (show ((R.take k).map flip).length = k by rw [List.length_map, List.length_take]; omega)
          obtain ⟨av2, cv2, rfl⟩ := hG.out.own.shape hkk.out
          have q0 := hG.out.c0
          have q1 := hG.out.c1
          have qf := hG.out.f1
          have hlx := hG.out.lt
          have hbl : b < wr.heap.size := by have := hG.out.kp.size; omega
          have ik : (0 : Int) ≤ (k : Int) ∧ (k : Int) < (R.length : Int) := by omega
          have hwW : IntKind.i64.wrap ((k : Int) + 1) = (k : Int) + 1 := by rw [IntKind.wrap_i64]; omega
          go_wp2_with (at_builtin; (refine wpList_push (e := 34) (enc := encE) (xs := ((R.take k).map flip)) (v := .slice av2 (k) cv2) (base := W1.heap.size + 1) rfl (.tmp 84) (.tmp 92) 22 rfl _ 24 Try.underlying22 info_ed rfl ?d11 lenE oneE (k) ?d21 ?d31 ?d41 ⟨wr.heap.size + 1, 0, none⟩ 1 ⟨xv, xu, xc⟩ ?d51 ?d61 ?d71 ?d81 ?d91 ?_); (case d11 => omega); (case d21 => exact hkk.out); (case d31 => rfl); (case d41 => exact ((hG.out.own.alloc _).alloc _)); (case d51 => rfl); (case d61 => exact newE _ _ _ _ (by simp)); (case d71 => omega); (case d81 => unfold maxLen; omega); (case d91 => first | omega | (simp; done) | (simp; omega)); intro g1 c1 w1 own1 hb1 hgr1 hg1 hgl1; have hB1 := hide (unalloc (unalloc hb1 (by simp; omega)) (by omega)); replace own1 := hide own1; clear hgr1; have cc0 := cu_below hB1.out q0 (by simp); have cc1 := cu_below hB1.out q1 (by simp); have ff1 := fu_below hB1.out qf (by simp); have hl1 := cell_lt cc0; clear hb1)
          go_roundw
          case rel => exact ⟨k + 1, _, by omega, by go_num, hide (by rw [hx.out]; exact hG.out.push own1.out hB1.out)⟩
          case measure => simp [intOf]; omega
        · obtain rfl : k = R.length := by omega
          obtain ⟨W2, rfl⟩ : ∃ W2 : World, W2 = wr := ⟨_, rfl⟩
          have hG2 := hide (show GN 34 W1.heap.size n W1 v (R.map flip) W2 by have := hG.out; rwa [List.take_length] at this)
          obtain ⟨av2, cv2, rfl⟩ := hG2.out.own.shape (n := R.length) (by simp)
          have hB12 := hide hG2.out.kp
          have hlx := hG2.out.lt
          have p0 := hG2.out.c0
          have p1 := hG2.out.c1
          have hRun := hide (show Calls Try.prog 87 #[.agg #[.int .i64 (n : Int), .slice av2 R.length cv2], .int .i64 (t : Int)] W2 (OwnBack encI 1 3 (LI n D) n W2) from by
            have hr2 : Row encE 3 W2 W2.heap.size av2 (R.map flip) := by
              obtain ⟨a', c', hv, hr, _⟩ := hG2.out.own.row lenE
              injection hv with q1 q2 q3
              subst q1
              exact hr
            have := run_gen n av2 cv2 (R.map flip) t W2 W2.heap.size (Nat.le_refl _) hr2 (by omega) (by omega) (by rw [List.length_map]; omega) (fun e he => by have := flip_right hRr e he; omega) (fun e he => by
              obtain ⟨x, hx, rfl⟩ := List.mem_map.1 he
              have h1 := hp.out x (by have := hR.out; rw [this] at hx; exact (List.mem_filter.1 hx).1)
              simp only [flip]
              omega) ht
            rw [List.length_map] at this
            have hDD : distF n (R.map flip) t = D := by rw [hD.out, hR.out]; rfl
            rw [hDD] at this
            exact this)
          clear hG hgn2 y0 y1 x0
          go_wp2_with fail
          refine (hRun.out).mono ?_
          rintro e W3 ⟨ad, cd, rfl, own3, hb3⟩
          obtain ⟨gd, rfl, hgd1, hgd2⟩ := own3.blockI (show 0 < n by omega)
          replace own3 := hide own3
          have hB13 := hide (hB12.out.trans (hb3.mono hB12.out.size))
          have hB3 := hide (hbw.out.trans (hB13.out.mono hbw.out.size))
          have hz3 : W1.heap.size < W3.heap.size := by have := hb3.size; omega
          have hz3a : w.heap.size + 1 < W3.heap.size := by omega
          have hz3b : w.heap.size < W3.heap.size := by omega
          have hz3c : w.heap.size + 1 + 1 < W3.heap.size := by omega
          have hB03 := hide (hG1.out.kp.trans (hB13.out.mono (by omega)))
          have X0 : W3.cell? ⟨w.heap.size, 0, none⟩ = some (.int .i64 n) := cu_below hB03.out g0.out.1 (by simp; omega)
          have X1 : W3.cell? ⟨w.heap.size, 1, none⟩ = some (.slice a es.length cap) := cu_below hB03.out g0.out.2.1 (by simp; omega)
          have X2 : W3.cell? ⟨w.heap.size + 1, 0, none⟩ = some (.slice none 0 0) := cu_below hB03.out g0.out.2.2.1 (by simp; omega)
          have X3 : W3.cell? ⟨w.heap.size + 1, 1, none⟩ = some (.int .i64 0) := cu_below hB03.out g0.out.2.2.2.1 (by simp; omega)
          have X4 : ∀ o, W3.frozen? ⟨w.heap.size + 1, o, none⟩ = false := fun o => fu_below hB03.out (g0.out.2.2.2.2 o) (by simp; omega)
          have X5 : W3.cell? ⟨w.heap.size + 1 + 1, 1, none⟩ = some (.slice av R.length cv) := cu_below hB13.out hG1.out.c1 (by simp; omega)
          have X40 := X4 0
          have X41 := X4 1
          replace X4 := hide X4
          have hrow3 := hide (hrow1.out.below hB13.out (Nat.le_refl _))
          have hDu : W3.cell? ⟨gd, u, none⟩ = some (.int .i64 (D u)) := own3.out.atI u hu
          have hua : (0 : Int) ≤ (u : Int) ∧ (u : Int) < (n : Int) := by omega
          clear hRun hG1 hG2 g0 hgd1 hb3 p0 p1 hlx hbw hB12 hrow1 hz1 hz2 hz0
          by_cases hF : D u = FAR
          · have qF : (D u == 1099511627776) = true := by rw [hF]; rfl
            have hres := hide (show FAR ≤ restD n es t b0 u no u by rw [← hD.out, hF]; exact Int.le_refl _)
            replace hF := hide hF
            go_wp2
            refine bodyPost_ret (v := .tuple #[.agg #[.slice none 0 0, .int .i64 0], .bool false]) (by simp [results, Try.results148, go_sem, X2, X3, X40, X41, hz3a]) rfl ⟨?_, .inl ⟨hres.out, rfl⟩⟩
            exact (hB3.out.setCell (by simp) _).setCell (by simp) _
          · have qF : (D u == 1099511627776) = false := by simp; exact fun h => hF h
            have hF2 := hide (show D u < FAR by have := hDlow u; omega)
            replace hF := hide hF
            obtain ⟨g1, hg1⟩ := grd_is hDok _ u hF2.out (Nat.le_refl _)
            have hgp := hide (grd_path hDok hg1)
            have hbr3 := hide (hbR.out.below hB3.out hB)
            have hE3 := hide (hE'.out.below hB3.out hB)
            have hbl := hide (show (b0 ++ u :: g1).length ≤ 64 ∧ Lnk (nes es) (b0 ++ u :: g1) ∧ ∀ v ∈ b0 ++ u :: g1, v < n from by
              have hk := rest_mem (es := es) (b0 := b0) (u := u) (no := no)
              have hg1' := hg1
              have hDok' := hDok
              rw [hR.out] at hg1' hDok'
              have hSim := onw_sim hk hDok' hh hd hl hg1'
              have hs2 := sim_len hes.out hs hSim
              exact ⟨by omega, hSim.lnk, hs2.2⟩)
            clear hh hd hl
            go_wp2_with fail
            refine (cloneI (some ⟨bb, ob, none⟩) cb m (NI (b0 ++ [u])) W3 B (by omega) (by rw [ni_len, List.length_append]; exact hm.out) hbr3.out (by omega)).mono ?_
            rintro e W4 ⟨ap, cp, rfl, own4, hb4⟩
            have h4 := hide (show ∃ (gs r : List Nat), Grd (nes R) D t u r ∧ g1 = gs ++ r ∧ Own encI 1 3 W4 W3.heap.size (.slice ap m cp) (NI (b0 ++ u :: gs)) ∧ Below W3.heap.size W3 W4 from ⟨[], g1, hg1, rfl, own4, hb4⟩)
            go_wp2_with fail
            go_loopw [10, 18] (fun s10 s18 wr => ∃ (at' : Nat), at' < n ∧ s10 = .int .i64 at' ∧ Hid (∃ (gs r : List Nat), Grd (nes R) D t at' r ∧ g1 = gs ++ r ∧ Own encI 1 3 wr W3.heap.size s18 (NI (b0 ++ u :: gs)) ∧ Below W3.heap.size W3 wr)) (fun s10 _ _ => (D (intOf s10).toNat).toNat)
            case atStart => exact ⟨u, hu, rfl, h4⟩
            case round =>
              obtain ⟨at', hat', rfl, h5⟩ := hrel
              obtain ⟨gs, r, hgr, hgs, ownp, hbp⟩ := h5.out
              clear h5
              obtain ⟨wq, rfl⟩ : ∃ wq : World, wq = wr := ⟨_, rfl⟩
              obtain ⟨kp, hkp⟩ : ∃ kp, kp = (NI (b0 ++ u :: gs)).length := ⟨_, rfl⟩
              obtain ⟨av5, cv5, rfl⟩ := ownp.shape hkp.symm
              have hkp2 : kp ≤ 64 := by
                have := hbl.out.1
                rw [hgs] at this
                rw [hkp, ni_len]
                simp at this ⊢
                omega
              have hbw5 := hide (hB3.out.trans (hbp.mono hB3.out.size))
              have hz5 := hbp.size
              have Y0 : wq.cell? ⟨w.heap.size, 0, none⟩ = some (.int .i64 n) := cu_below hbp X0 hz3b
              have Y1 : wq.cell? ⟨w.heap.size, 1, none⟩ = some (.slice a es.length cap) := cu_below hbp X1 hz3b
              have hz6 : w.heap.size < wq.heap.size := by omega
              by_cases hend : at' = t
              · have qe : ((at' : Int) != (t : Int)) = false := by simp [hend]
                have hr : r = [] := by
                  cases hgr with
                  | stop => rfl
                  | step h _ _ _ => exact absurd hend h
                have hg : g1 = gs := by rw [hgs, hr, List.append_nil]
                have hW := hide (show Calls Try.prog 195 #[.agg #[.int .i64 (n : Int), .slice a es.length cap], .slice av5 kp cv5] wq (PairBack (pcost es (b0 ++ u :: g1), 0) wq) from by
                  obtain ⟨a', c', hv, hr, _⟩ := ownp.row lenI
                  injection hv with q1 q2 q3
                  subst q1
                  have hc := wcost_ok n a cap es av5 cv5 (NI (b0 ++ u :: gs)) wq wq.heap.size (Nat.le_refl _) ((hE3.out.below hbp (by omega)).mono (by omega)) hr (by omega) h0.out (by rw [ni_len, List.length_append, List.length_cons]; omega) (by rw [← hkp]; omega)
                  rw [← hkp, wcost_p h0.out (by rw [← hg]; exact hbl.out.2.1) (by rw [← hg]; exact hbl.out.2.2) (by rw [List.length_append, List.length_cons]; omega) (by rw [← hg]; have := hbl.out.1; omega), ← hg] at hc
                  exact hc)
                have hown := hide (show Own encI 1 3 wq W3.heap.size (.slice av5 kp cv5) (NI (b0 ++ u :: g1)) by rw [hg]; exact ownp)
                replace hkp := hide hkp
                replace hgs := hide hgs
                replace hg1 := hide hg1
                replace hend := hide hend
                clear ownp hgr hr hg
                go_wp2_with fail
                refine (hW.out).mono ?_
                rintro e W6 ⟨rfl, hb6⟩
                have hb36 := hbp.trans (hb6.mono hz5)
                have Z2 := cu_below hb36 X2 hz3a
                have Z3 := cu_below hb36 X3 hz3a
                have Z4 := fu_below hb36 X40 hz3a
                have Z5 := fu_below hb36 X41 hz3a
                have hz7 := cell_lt Z2
                have hown6 := hide (hown.out.stays hb6)
                have hB6 := hide (hB3.out.trans (hb36.mono hB3.out.size))
                replace hb36 := hide hb36
                replace hb6 := hide hb6
                go_wp2
                refine bodyPost_ret (v := .tuple #[.agg #[.slice av5 kp cv5, .int .i64 (pcost es (b0 ++ u :: g1))], .bool true]) (by simp [results, Try.results148, go_sem, Z2, Z3, Z4, Z5, hz7]) rfl ⟨(hB6.out.setCell (by simp) _).setCell (by simp) _, .inr ⟨?_, g1, ⟨av5, kp, cv5, pcost es (b0 ++ u :: g1), b0 ++ u :: g1⟩, ?_, rfl, rfl, rfl, ?_, ?_⟩⟩
                · rw [← hD.out]; exact hF2.out
                · rw [← hD.out, ← hR.out]; exact hg1.out
                · exact (pb_own _ ((hown6.out.setCell (by simp; omega) _).setCell (by simp; omega) _)).1
                · intro ad had
                  have := (pb_own 0 hown6.out).2 ad had
                  omega
              · have qe : ((at' : Int) != (t : Int)) = true := by simp; omega
                cases hgr with
                | stop => exact absurd rfl hend
                | @step _ v r' _ htg hmin hgr' =>
                  have hnx := hide (nxF_is hRr htg hmin)
                  have hlow := hide (show D v < D at' from by
                    obtain ⟨_, e, he, h1, h2, h3⟩ := htg
                    have := hDok.pos e he
                    omega)
                  have hvn := hide (show v < n from by
                    obtain ⟨_, e, he, h1, h2, h3⟩ := htg
                    have := nes_right hRr e he
                    omega)
                  have hgr2 := hide hgr'
                  have hnn := hide (hDok.nn v)
                  have hownq := hide ownp
                  replace hkp := hide hkp
                  replace hgs := hide hgs
                  replace hg1 := hide hg1
                  replace hend := hide hend
                  have Y5 : wq.cell? ⟨w.heap.size + 1 + 1, 1, none⟩ = some (.slice av R.length cv) := cu_below hbp X5 hz3c
                  have hz8 : w.heap.size + 1 + 1 < wq.heap.size := by omega
                  clear ownp htg hmin hgr'
                  go_wp2
                  go_loopw [19, 115] (fun s19 s115 wr => ∃ k : Nat, k ≤ R.length ∧ s115 = .int .i64 k ∧ s19 = .int .i64 (nxF (R.take k) D at' n) ∧ Hid (Below wq.heap.size wq wr)) (fun _ s115 _ => R.length - (intOf s115).toNat)
                  case atStart => exact ⟨0, Nat.zero_le _, rfl, rfl, hide (Below.refl _ _)⟩
                  case round =>
                    obtain ⟨k, hk, rfl, rfl, hbk⟩ := hrel
                    have hbk3 := hide (hbp.trans (hbk.out.mono hz5))
                    by_cases hlt : k < R.length
                    · obtain ⟨fu, tv, e1, e2, e3, e4, -⟩ := right_edge hRr k hlt
                      have hcR := hide (hRr R[k] (List.getElem_mem hlt))
                      obtain ⟨b, o, rfl, hbB2, d0, d1, d2⟩ := (hrow3.out.below hbk3.out (by omega)).ed k hlt
                      have hnt := hide (nxF_take (D := D) (u := at') (n := (n : Int)) hlt)
                      rw [e1] at d0
                      rw [e2] at d1
                      have hnt2 := hide (show nxF (R.take (k + 1)) D at' n = if fu = at' ∧ D tv < FAR ∧ R[k].c + D tv = D at' then min (nxF (R.take k) D at' n) (tv : Int) else nxF (R.take k) D at' n from by
                        rw [hnt.out, e1, e2, Int.toNat_natCast]
                        by_cases h : fu = at'
                        · subst h; simp
                        · rw [if_neg (by omega), if_neg (fun h2 => h h2.1)])
                      obtain ⟨xc, hxc⟩ : ∃ z, z = R[k].c := ⟨_, rfl⟩
                      have hxb := hcR.out
                      rw [← hxc] at d2 hnt2 hxb
                      obtain ⟨mk, hmk⟩ : ∃ z, z = nxF (R.take k) D at' n := ⟨_, rfl⟩
                      rw [← hmk] at hnt2 ⊢
                      replace hmk := hide hmk
                      replace hxc := hide hxc
                      have hbl2 : b < wr.heap.size := by have := hbk3.out.size; omega
                      have D1 : wr.cell? ⟨gd, tv, none⟩ = some (.int .i64 (D tv)) := cu_below hbk3.out (own3.out.atI tv e4) hgd2
                      have D2 : wr.cell? ⟨gd, at', none⟩ = some (.int .i64 (D at')) := cu_below hbk3.out (own3.out.atI at' hat') hgd2
                      have hgd3 : gd < wr.heap.size := cell_lt D1
                      have htv : (0 : Int) ≤ (tv : Int) ∧ (tv : Int) < (n : Int) := by omega
                      have hatn : (0 : Int) ≤ (at' : Int) ∧ (at' : Int) < (n : Int) := by omega
                      have ik : (0 : Int) ≤ (k : Int) ∧ (k : Int) < (R.length : Int) := by omega
                      have hwW : IntKind.i64.wrap ((k : Int) + 1) = (k : Int) + 1 := by rw [IntKind.wrap_i64]; omega
                      obtain ⟨dv, hdv⟩ : ∃ z, z = D tv := ⟨_, rfl⟩
                      obtain ⟨da, hda⟩ : ∃ z, z = D at' := ⟨_, rfl⟩
                      have hdv0 := hDok.nn tv
                      rw [← hdv] at D1 hnt2 hdv0
                      rw [← hda] at D2 hnt2
                      replace hdv := hide hdv
                      replace hda := hide hda
                      clear e1 e2 hcR hnt
                      have hbA := hide (fun (c : Obj) (j : Nat) => (show Below wq.heap.size wq ((wr.alloc c).drewN j) from up_drewN (up_alloc hbk.out hbk.out.size)))
                      obtain ⟨WA, hWA⟩ : ∃ WA, WA = wr.alloc (.cells #[.int .i64 (fu : Int), .int .i64 (tv : Int), .int .i64 xc] 34) := ⟨_, rfl⟩
                      have hBA := hide (fun (j : Nat) => (show Below wq.heap.size wq (WA.drewN j) by rw [hWA]; exact hbA.out _ _))
                      have D1A : WA.cell? ⟨gd, tv, none⟩ = some (.int .i64 dv) := by rw [hWA]; exact cu_alloc D1
                      have D2A : WA.cell? ⟨gd, at', none⟩ = some (.int .i64 da) := by rw [hWA]; exact cu_alloc D2
                      have A0 : WA.cell? ⟨wr.heap.size, 0, none⟩ = some (.int .i64 (fu : Int)) := by rw [hWA]; simp [go_sem]
                      have A1 : WA.cell? ⟨wr.heap.size, 1, none⟩ = some (.int .i64 (tv : Int)) := by rw [hWA]; simp [go_sem]
                      have A2 : WA.cell? ⟨wr.heap.size, 2, none⟩ = some (.int .i64 xc) := by rw [hWA]; simp [go_sem]
                      have zA1 := cell_lt A0
                      have zA2 := cell_lt D1A
                      have hcase : ((fu : Int) == (at' : Int)) = false ∨ (((fu : Int) == (at' : Int)) = true ∧ (dv < 1099511627776) = False) ∨ (((fu : Int) == (at' : Int)) = true ∧ (dv < 1099511627776) = True ∧ (xc + dv == da) = false) ∨ (((fu : Int) == (at' : Int)) = true ∧ (dv < 1099511627776) = True ∧ (xc + dv == da) = true) := by
                        by_cases h1 : ((fu : Int) == (at' : Int)) = true
                        · by_cases h2 : dv < 1099511627776
                          · by_cases h3 : (xc + dv == da) = true
                            · exact .inr (.inr (.inr ⟨h1, by simp [h2], h3⟩))
                            · exact .inr (.inr (.inl ⟨h1, by simp [h2], by simpa using h3⟩))
                          · exact .inr (.inl ⟨h1, by simp [h2]⟩)
                        · exact .inl (by simpa using h1)
                      have hfar : FAR = 1099511627776 := rfl
                      have hnt2' := hnt2.out
                      rw [hfar] at hnt2'
                      clear hfar hnt2
                      rcases hcase with q1 | ⟨q1, q2⟩ | ⟨q1, q2, q3⟩ | ⟨q1, q2, q3⟩
                      · have hno := hide (show nxF (R.take (k + 1)) D at' n = mk by rw [hnt2', if_neg]; rintro ⟨h, _⟩; subst h; simp at q1)
                        clear hnt2'
                        go_wp2_with fail
                        simp only [← hWA]
                        replace hWA := hide hWA
                        (refine wp_region_quiet_hid (by kernel_rfl) (by kernel_rfl) (fun wq hst hni => ?_); (repeat (refine hst.out _ _ _ _ (fun K hK => ?_); go_simp; first | (refine hK.out _ ?_; clear hK K) | (apply Exists.intro; refine ⟨fun _ => ?_, hK.out _ ?_⟩; (fail); clear hK K))); refine hni.out _ _ ?_; clear hst hni wq; intro wqq hw'; obtain ⟨nq, hw''⟩ := hw'; subst hw'')
                        go_wp2
                        go_roundw
                        case rel => exact ⟨k + 1, by omega, by go_num, by rw [hno.out], hide (hBA.out _)⟩
                        case measure => simp [intOf]; omega
                      · have hno := hide (show nxF (R.take (k + 1)) D at' n = mk by rw [hnt2', if_neg]; rintro ⟨_, h, _⟩; rw [q2] at h; exact h)
                        clear hnt2'
                        go_wp2_with fail
                        simp only [← hWA]
                        replace hWA := hide hWA
                        (refine wp_region_quiet_hid (by kernel_rfl) (by kernel_rfl) (fun wq hst hni => ?_); (repeat (refine hst.out _ _ _ _ (fun K hK => ?_); go_simp; first | (refine hK.out _ ?_; clear hK K) | (apply Exists.intro; refine ⟨fun _ => ?_, hK.out _ ?_⟩; (fail); clear hK K))); refine hni.out _ _ ?_; clear hst hni wq; intro wqq hw'; obtain ⟨nq, hw''⟩ := hw'; subst hw'')
                        go_wp2
                        go_roundw
                        case rel => exact ⟨k + 1, by omega, by go_num, by rw [hno.out], hide (hBA.out _)⟩
                        case measure => simp [intOf]; omega
                      · have hno := hide (show nxF (R.take (k + 1)) D at' n = mk by rw [hnt2', if_neg]; rintro ⟨_, _, h⟩; simp [h] at q3)
                        have q4 : dv < 1099511627776 := by rw [q2]; trivial
                        have hw9 : IntKind.i64.wrap (xc + dv) = xc + dv := by rw [IntKind.wrap_i64]; omega
                        clear hnt2'
                        go_wp2_with fail
                        simp only [← hWA]
                        replace hWA := hide hWA
                        (refine wp_region_quiet_hid (by kernel_rfl) (by kernel_rfl) (fun wq hst hni => ?_); (repeat (refine hst.out _ _ _ _ (fun K hK => ?_); go_simp; first | (refine hK.out _ ?_; clear hK K) | (apply Exists.intro; refine ⟨fun _ => ?_, hK.out _ ?_⟩; (fail); clear hK K))); refine hni.out _ _ ?_; clear hst hni wq; intro wqq hw'; obtain ⟨nq, hw''⟩ := hw'; subst hw'')
                        go_wp2
                        go_roundw
                        case rel => exact ⟨k + 1, by omega, by go_num, by rw [hno.out], hide (hBA.out _)⟩
                        case measure => simp [intOf]; omega
                      · have q5 : fu = at' := by
                          have : (fu : Int) = at' := by simpa using q1
                          omega
                        have hyes := hide (show nxF (R.take (k + 1)) D at' n = min mk (tv : Int) by rw [hnt2', if_pos]; exact ⟨q5, by rw [q2]; trivial, by simpa using q3⟩)
                        have q4 : dv < 1099511627776 := by rw [q2]; trivial
                        have hw9 : IntKind.i64.wrap (xc + dv) = xc + dv := by rw [IntKind.wrap_i64]; omega
                        replace q5 := hide q5
                        clear hnt2'
                        go_wp2_with fail
                        simp only [← hWA]
                        replace hWA := hide hWA
                        (refine wp_region_quiet_hid (by kernel_rfl) (by kernel_rfl) (fun wq hst hni => ?_); (repeat (refine hst.out _ _ _ _ (fun K hK => ?_); go_simp; first | (refine hK.out _ ?_; clear hK K) | (apply Exists.intro; refine ⟨fun _ => ?_, hK.out _ ?_⟩; (fail); clear hK K))); refine hni.out _ _ ?_; clear hst hni wq; intro wqq hw'; obtain ⟨nq, hw''⟩ := hw'; subst hw'')
                        have hBx := hide (hBA.out nq)
                        have A1x := cu_drewN (n := nq) A1
                        have zA3 := cell_lt A1x
                        generalize WA.drewN nq = wx at hBx A1x zA3 ⊢
                        rcases Int.lt_or_le (tv : Int) mk with hmin | hmin
                        · have hyes2 := hide (show nxF (R.take (k + 1)) D at' n = (tv : Int) by rw [hyes.out]; omega)
                          clear hyes
                          go_wp2
                          go_roundw
                          case rel => exact ⟨k + 1, by omega, by go_num, by rw [hyes2.out], hBx⟩
                          case measure => simp [intOf]; omega
                        · have hyes2 := hide (show nxF (R.take (k + 1)) D at' n = mk by rw [hyes.out]; omega)
                          clear hyes
                          go_wp2
                          go_roundw
                          case rel => exact ⟨k + 1, by omega, by go_num, by rw [hyes2.out], hBx⟩
                          case measure => simp [intOf]; omega
                    · obtain rfl : k = R.length := by omega
                      have hvv := hide (show nxF (R.take R.length) D at' n = (v : Int) by rw [List.take_length]; exact hnx.out)
                      have hown5 := hide (hownq.out.stays hbk.out)
                      obtain ⟨W5, rfl⟩ : ∃ W5 : World, W5 = wr := ⟨_, rfl⟩
                      have hz9 := hbk3.out.size
                      replace hbk3 := hide hbk3
                      rw [hvv.out]
                      go_wp2_with (at_builtin; (refine wpList_push (e := 3) (enc := encI) (xs := (NI (b0 ++ u :: gs))) (v := .slice av5 (kp) cv5) (base := W3.heap.size) rfl (.tmp 151) (.tmp 153) 29 rfl _ 8 Try.underlying29 info_int rfl ?d17 lenI oneI (kp) ?d27 ?d37 ?d47 ⟨W5.heap.size, 0, none⟩ 1 (v : Int) ?d57 ?d67 ?d77 ?d87 ?d97 ?_); (case d17 => omega); (case d27 => exact hkp.out.symm); (case d37 => rfl); (case d47 => exact (hown5.out.alloc _)); (case d57 => rfl); (case d67 => exact newI _ _ _ _ rfl); (case d77 => omega); (case d87 => unfold maxLen; omega); (case d97 => first | omega | (simp; done) | (simp; omega)); intro g7 c7 w7 own7 hb7 hgr7 hg7 hgl7; have hB7 := hide (unalloc hb7 hz9); replace own7 := hide own7; clear hgr7 hb7)
                      go_roundw
                      case rel =>
                        refine ⟨v, hvn.out, rfl, hide ⟨gs ++ [v], r', hgr2.out, by rw [hgs.out, List.append_assoc]; rfl, ?_, hbk3.out.out.trans hB7.out⟩⟩
                        rw [show b0 ++ u :: (gs ++ [v]) = (b0 ++ u :: gs) ++ [v] by simp, show NI ((b0 ++ u :: gs) ++ [v]) = NI (b0 ++ u :: gs) ++ [(v : Int)] by simp [NI]]
                        exact own7.out
                      case measure =>
                        have h1 := hlow.out
                        have h2 := hnn.out
                        simp [intOf]
                        omega
end Go.Proofs.Ytcehdpeeaogpiaa
