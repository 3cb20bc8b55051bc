/-
  Ways in memory: what they read as; which is less. Conditions: bounds on the length of their slices.
-/
import Derived.Test.YtcehdpeeaogpiaaYenP
import Derived.Test.YtcehdpeeaogpiaaEqA
import Derived.LoopTactic
namespace Go.Proofs.Ytcehdpeeaogpiaa
open Go.RowKit
set_option linter.unusedSimpArgs false
set_option linter.unusedVariables false
/-- a way in memory: its slice of places, its cost; p: what the slice reads as -/
structure Yv where
  a : Option Addr
  n : Nat
  c : Nat
  k : Int
  p : List Nat
def encY (x : Yv) : List Value := [.slice x.a x.n x.c, .int .i64 x.k]
theorem lenY (x : Yv) : (encY x).length = 2 := rfl
theorem oneY (x : Yv) : ∀ u ∈ encY x, u.oneCell' = true := by intro u hu; simp [encY] at hu; rcases hu with rfl | rfl <;> rfl
theorem newY (w : World) (t : TypeId) (x : Yv) (g : Nat) (hg : g = w.heap.size) : ∀ j u, (encY x)[j]? = some u → (w.alloc (.cells #[.slice x.a x.n x.c, .int .i64 x.k] t)).cell? ((⟨g, 0, none⟩ : Addr).add j) = some u := by
  intro j u hj; subst hg
  match j, hj with
  | 0, hj => simp [encY] at hj; subst hj; simp [Addr.add]
  | 1, hj => simp [encY] at hj; subst hj; simp [WideShapes.add_plain]
def Yv.wy (x : Yv) : Wy := ⟨x.k, x.p⟩
def yvLt (a b : Yv) : Bool := yLt a.wy b.wy
theorem yvLt_ord : Ord yvLt := ⟨fun a => yLt_ord.irr _, fun a b => yLt_ord.asym _ _, fun a b c => yLt_ord.trans _ _ _⟩
/-- places as numbers -/
def NI (p : List Nat) : List Int := p.map (fun (v : Nat) => (v : Int))
theorem ni_len (p : List Nat) : (NI p).length = p.length := by simp [NI]
theorem ni_get (p : List Nat) (i : Nat) (h : i < (NI p).length) (h' : i < p.length) : (NI p)[i] = (p[i] : Int) := by simp [NI]
theorem ni_inj {p q : List Nat} (h : NI p = NI q) : p = q := by
  have : ∀ (p q : List Nat), NI p = NI q → p = q := by
    intro p
    induction p with
    | nil => intro q h; cases q with
      | nil => rfl
      | cons a r => simp [NI] at h
    | cons a r ih =>
      intro q h
      cases q with
      | nil => simp [NI] at h
      | cons b s =>
        simp only [NI, List.map_cons, List.cons.injEq] at h
        rw [ih s h.2, show a = b by omega]
  exact this p q h
/-- its slice reads as p -/
structure PB (w : World) (x : Yv) : Prop where
  len : x.p.length = x.n
  cap : x.n ≤ x.c
  max : x.c ≤ 9223372036854775807
  row : Row encI 1 w w.heap.size x.a (NI x.p)
/-- it lies in none of the blocks of S -/
def Apt (S : Nat → Prop) (x : Yv) : Prop := ∀ ad, x.a = some ad → ¬ S ad.block
theorem PB.keep {S : Nat → Prop} {w w' : World} {x : Yv} (h : PB w x) (k : Keep S w w') (ha : Apt S x) : PB w' x := by
  refine ⟨h.len, h.cap, h.max, fun i hi => ?_⟩
  obtain ⟨b, o, e1, e2, e3⟩ := h.row i hi
  exact ⟨b, o, e1, Nat.lt_of_lt_of_le e2 k.size, fun j u hu => k.cu (e3 j u hu) (ha ⟨b, o, none⟩ e1)⟩
theorem PB.stays {w w' : World} {x : Yv} (h : PB w x) (k : Below w.heap.size w w') : PB w' x := h.keep (Keep.new (S := fun _ => False) k) (fun _ _ h => h)
theorem PB.drew {w : World} {x : Yv} (h : PB w x) : PB w.drew x := h.stays (below_drew _)
theorem PB.drewN {w : World} {x : Yv} (h : PB w x) (n : Nat) : PB (w.drewN n) x := by
  induction n with
  | zero => exact h
  | succ n ih => exact ih.drew
theorem info_way : (Try.prog.info? 36).map (fun i => (i.zero, i.size, i.bytes)) = some (some (.agg #[.slice none 0 0, .int .i64 0]), 2, 32) := by kernel_rfl
theorem Own.getY {e : TypeId} {w : World} {base : Nat} {xs : List Yv} {g n c : Nat} (h : Own encY 2 e w base (.slice (some ⟨g, 0, none⟩) n c) xs) (i : Nat) (hi : i < xs.length) :
    w.cell? ⟨g, i * 2, none⟩ = some (.slice xs[i].a xs[i].n xs[i].c) ∧ w.cell? ⟨g, i * 2 + 1, none⟩ = some (.int .i64 xs[i].k) :=
  ⟨by simpa using h.get lenY i hi 0 _ rfl, h.get lenY i hi 1 _ rfl⟩
theorem Own.putY {e : TypeId} {w : World} {base : Nat} {xs : List Yv} {g n c : Nat} (h : Own encY 2 e w base (.slice (some ⟨g, 0, none⟩) n c) xs) (i : Nat) (hi : i < xs.length) (x : Yv) :
    Own encY 2 e ((w.setCell ⟨g, i * 2, none⟩ (.slice x.a x.n x.c)).setCell ⟨g, i * 2 + 1, none⟩ (.int .i64 x.k)) base (.slice (some ⟨g, 0, none⟩) n c) (xs.set i x) := by
  have h1 := h.put lenY i hi 0 (by omega) (.slice x.a x.n x.c) ⟨x.a, x.n, x.c, xs[i].k, x.p⟩ rfl
  have h2 := h1.put lenY i (by simpa using hi) 1 (by omega) (.int .i64 x.k) x (by simp [encY])
  rw [List.set_set] at h2
  simpa using h2
def cmpI (x y : Int) : Int := if x < y then -1 else if y < x then 1 else 0
theorem isNaN_any (x : Int) (w : World) : Calls Try.prog 214 #[.int .i64 x] w fun e w' => e = .returned (.bool false) ∧ w' = w := by
  go_enter Try.func214, Try.ntmps214
  have q : (x != x) = false := by simp
  go_wp2
  go_ret
  exact ⟨rfl, rfl⟩
set_option maxHeartbeats 1000000 in
theorem cmpI_any (x y : Int) (w : World) : Calls Try.prog 203 #[.int .i64 x, .int .i64 y] w fun e w' => e = .returned (.int .i64 (cmpI x y)) ∧ w' = w := by
  have hN := hide (fun (z : Int) (w : World) => isNaN_any z w)
  obtain ⟨r, hr⟩ : ∃ r, r = cmpI x y := ⟨_, rfl⟩
  rw [← hr]
  by_cases h1 : x < y
  · obtain rfl : r = -1 := by rw [hr, cmpI, if_pos h1]
    replace hr := hide hr
    go_enter Try.func203, Try.ntmps203
    go_wp2_with (go_at_call 214; refine (hN.out _ _).mono ?_; rintro e w1 ⟨rfl, rfl⟩)
    go_ret
    exact ⟨rfl, rfl⟩
  · have h2 : (x < y) = False := by simp [h1]
    by_cases h3 : y < x
    · obtain rfl : r = 1 := by rw [hr, cmpI, if_neg h1, if_pos h3]
      replace hr := hide hr
      clear h1
      go_enter Try.func203, Try.ntmps203
      go_wp2_with (go_at_call 214; refine (hN.out _ _).mono ?_; rintro e w1 ⟨rfl, rfl⟩)
      go_ret
      exact ⟨rfl, rfl⟩
    · have h4 : (y < x) = False := by simp [h3]
      obtain rfl : r = 0 := by rw [hr, cmpI, if_neg h1, if_neg h3]
      replace hr := hide hr
      clear h1 h3
      go_enter Try.func203, Try.ntmps203
      go_wp2_with (go_at_call 214; refine (hN.out _ _).mono ?_; rintro e w1 ⟨rfl, rfl⟩)
      go_ret
      exact ⟨rfl, rfl⟩
theorem cmpL_drop {p q : List Nat} {k : Nat} (hp : k < p.length) (hq : k < q.length) : cmpL (p.drop k) (q.drop k) = if cmpI (p[k] : Int) (q[k] : Int) = 0 then cmpL (p.drop (k + 1)) (q.drop (k + 1)) else cmpI (p[k] : Int) (q[k] : Int) := by
  rw [List.drop_eq_getElem_cons hp, List.drop_eq_getElem_cons hq, cmpL]
  by_cases h1 : p[k] < q[k]
  · have e : cmpI (p[k] : Int) (q[k] : Int) = -1 := by rw [cmpI, if_pos (by omega)]
    rw [if_pos h1, e, if_neg (by omega)]
  · rw [if_neg h1]
    by_cases h2 : q[k] < p[k]
    · have e : cmpI (p[k] : Int) (q[k] : Int) = 1 := by rw [cmpI, if_neg (by omega), if_pos (by omega)]
      rw [if_pos h2, e, if_neg (by omega)]
    · have e : cmpI (p[k] : Int) (q[k] : Int) = 0 := by rw [cmpI, if_neg (by omega), if_neg (by omega)]
      rw [if_neg h2, e, if_pos rfl]
theorem cmpL_short : ∀ {p q : List Nat}, p = [] → cmpL p q = if q.length = 0 then 0 else -1
  | _, [], rfl => rfl
  | _, _ :: _, rfl => rfl
theorem cmpL_long : ∀ {p q : List Nat}, p ≠ [] → q = [] → cmpL p q = 1
  | [], _, h, _ => absurd rfl h
  | _ :: _, _, _, rfl => rfl
set_option maxHeartbeats 2000000 in
theorem compare_any (a b : Option Addr) (n m c1 c2 : Nat) (p q : List Nat) (w : World) (B C : Nat) (hn : p.length = n) (hm : q.length = m) (hp : Row encI 1 w B a (NI p)) (hq : Row encI 1 w C b (NI q)) (hl1 : n ≤ 9223372036854775807) (hl2 : m ≤ 9223372036854775807) (r : Int) (hr : r = cmpL p q) :
    Calls Try.prog 156 #[.slice a n c1, .slice b m c2] w fun e w' => e = .returned (.int .i64 r) ∧ ∃ k, w' = w.drewN k := by
  have hN := hide (fun (x y : Int) (w : World) => cmpI_any x y w)
  have hpc := hide (fun (k : Nat) (hk : k < n) => (show ∃ b o, a = some ⟨b, o, none⟩ ∧ w.cell? ⟨b, o + k, none⟩ = some (.int .i64 (p.getD k 0 : Nat)) from by
    obtain ⟨b, o, e1, e2, e3⟩ := hp.int k (by rw [ni_len]; omega)
    refine ⟨b, o, e1, ?_⟩
    rw [e3, ni_get p k (by rw [ni_len]; omega) (by omega)]
    simp [List.getD, List.getElem?_eq_getElem (show k < p.length by omega)]))
  have hqc := hide (fun (k : Nat) (hk : k < m) => (show ∃ d o, b = some ⟨d, o, none⟩ ∧ w.cell? ⟨d, o + k, none⟩ = some (.int .i64 (q.getD k 0 : Nat)) from by
    obtain ⟨b, o, e1, e2, e3⟩ := hq.int k (by rw [ni_len]; omega)
    refine ⟨b, o, e1, ?_⟩
    rw [e3, ni_get q k (by rw [ni_len]; omega) (by omega)]
    simp [List.getD, List.getElem?_eq_getElem (show k < q.length by omega)]))
  have hstep := hide (fun (k : Nat) (h1 : k < n) (h2 : k < m) => (show cmpL (p.drop k) (q.drop k) = if cmpI (p.getD k 0 : Nat) (q.getD k 0 : Nat) = 0 then cmpL (p.drop (k + 1)) (q.drop (k + 1)) else cmpI (p.getD k 0 : Nat) (q.getD k 0 : Nat) from by
    have := cmpL_drop (p := p) (q := q) (k := k) (by omega) (by omega)
    rw [this]
    simp [List.getD, List.getElem?_eq_getElem (show k < p.length by omega), List.getElem?_eq_getElem (show k < q.length by omega)]))
  have hend := hide (show cmpL (p.drop n) (q.drop n) = if m ≤ n then 0 else -1 from by
    rw [cmpL_short (List.drop_of_length_le (by omega)), List.length_drop, hm]
    by_cases h : m ≤ n
    · rw [if_pos (by omega), if_pos h]
    · rw [if_neg (by omega), if_neg h])
  have hlong := hide (fun (h : m < n) => (show cmpL (p.drop m) (q.drop m) = 1 from cmpL_long (by intro e; have := congrArg List.length e; rw [List.length_drop] at this; simp at this; omega) (List.drop_of_length_le (by omega))))
  replace hr := hide (show cmpL (p.drop 0) (q.drop 0) = r by rw [List.drop_zero, List.drop_zero]; exact hr.symm)
  replace hn := hide hn
  replace hm := hide hm
  clear hp hq
  go_enter Try.func156, Try.ntmps156
  go_wp2
  go_loopw [11] (fun i wr => ∃ k : Nat, k ≤ n ∧ k ≤ m ∧ i = .int .i64 k ∧ Hid (cmpL (p.drop k) (q.drop k) = r) ∧ Hid (∃ j, wr = w.drewN j)) (fun i _ => n - (intOf i).toNat)
  case atStart => exact ⟨0, Nat.zero_le _, Nat.zero_le _, rfl, hr, ⟨0, rfl⟩⟩
  case round =>
    obtain ⟨k, hk, hkm, rfl, heq, hw⟩ := hrel
    obtain ⟨j, rfl⟩ := hw.out
    by_cases hlt : k < n
    · obtain ⟨b1, o1, rfl, c0⟩ := hpc.out k hlt
      have i1 : (0 : Int) ≤ (k : Int) ∧ (k : Int) < (n : Int) := by omega
      by_cases hlm : k < m
      · obtain ⟨b2, o2, rfl, d0⟩ := hqc.out k hlm
        have i2 : (k : Int) < (m : Int) := by omega
        have i3 : ¬ ((m : Int) ≤ (k : Int)) := by omega
        have hs := hstep.out k hlt hlm
        rw [heq.out] at hs
        obtain ⟨x, hx⟩ : ∃ x : Int, x = (p.getD k 0 : Nat) := ⟨_, rfl⟩
        obtain ⟨y, hy⟩ : ∃ y : Int, y = (q.getD k 0 : Nat) := ⟨_, rfl⟩
        rw [← hx] at c0 hs
        rw [← hy] at d0 hs
        obtain ⟨z, hz⟩ : ∃ z, z = cmpI x y := ⟨_, rfl⟩
        rw [← hz] at hs
        have hNz := hide (fun w => (show Calls Try.prog 203 #[.int .i64 x, .int .i64 y] w fun e w' => e = .returned (.int .i64 z) ∧ w' = w by rw [hz]; exact hN.out x y w))
        replace hx := hide hx
        replace hy := hide hy
        replace hz := hide hz
        by_cases hz0 : z = 0
        · have q0 : (z != 0) = false := by simp [hz0]
          rw [if_pos hz0] at hs
          replace hs := hide hs
          replace hz0 := hide hz0
          go_wp2_with (go_at_call 203; refine (hNz.out _).mono ?_; rintro e w1 ⟨rfl, rfl⟩)
          go_roundw
          case rel => exact ⟨k + 1, by omega, by omega, by go_num, hide hs.out.symm, ⟨j, rfl⟩⟩
          case measure => simp [intOf]; omega
        · have q0 : (z != 0) = true := by simp [hz0]
          rw [if_neg hz0] at hs
          replace hs := hide hs
          replace hz0 := hide hz0
          go_wp2_with (go_at_call 203; refine (hNz.out _).mono ?_; rintro e w1 ⟨rfl, rfl⟩)
          go_ret
          exact ⟨ret_int hs.out.symm, ⟨j, rfl⟩⟩
      · have i3 : (m : Int) ≤ (k : Int) := by omega
        obtain rfl : k = m := by omega
        have hL := hlong.out hlt
        rw [heq.out] at hL
        replace hL := hide hL
        go_wp2
        go_ret
        exact ⟨ret_int hL.out.symm, ⟨j, rfl⟩⟩
    · obtain rfl : k = n := by omega
      have hE := hend.out
      rw [heq.out] at hE
      by_cases hmn : m ≤ k
      · rw [if_pos hmn] at hE
        have i3 : ¬ ((k : Int) < (m : Int)) := by omega
        replace hE := hide hE
        go_wp2
        go_ret
        exact ⟨ret_int hE.out.symm, ⟨j, rfl⟩⟩
      · rw [if_neg hmn] at hE
        have i3 : (k : Int) < (m : Int) := by omega
        replace hE := hide hE
        go_wp2
        go_ret
        exact ⟨ret_int hE.out.symm, ⟨j, rfl⟩⟩
set_option maxHeartbeats 2000000 in
theorem lessY_any (p q : Yv) (w : World) (hp : PB w p) (hq : PB w q) :
    Calls Try.prog 147 #[.agg #[.slice p.a p.n p.c, .int .i64 p.k], .agg #[.slice q.a q.n q.c, .int .i64 q.k]] w fun e w' => e = .returned (.bool (yvLt p q)) ∧ Below w.heap.size w w' := by
  obtain ⟨z, hz⟩ : ∃ z, z = cmpL p.p q.p := ⟨_, rfl⟩
  have hC := hide (fun (w' : World) (hb : Below w.heap.size w w') => compare_any p.a q.a p.n q.n p.c q.c p.p q.p w' w'.heap.size w'.heap.size hp.len hq.len (hp.stays hb).row (hq.stays hb).row (Nat.le_trans hp.cap hp.max) (Nat.le_trans hq.cap hq.max) z hz)
  obtain ⟨t, ht⟩ : ∃ t, t = yvLt p q := ⟨_, rfl⟩
  rw [← ht]
  have ht2 : t = (decide (p.k < q.k) || (decide (p.k = q.k) && decide (z < 0))) := by rw [ht, hz]; rfl
  clear ht hp hq
  replace hz := hide hz
  go_enter Try.func147, Try.ntmps147
  by_cases h1 : p.k < q.k
  · have e1 : t = true := by rw [ht2]; simp [h1]
    clear ht2
    subst e1
    go_wp2
    go_ret
    exact ⟨rfl, (by repeat (first | with_reducible exact Below.refl _ _ | with_reducible assumption | with_reducible refine up_drewN ?_ | with_reducible refine up_drew ?_ | (with_reducible refine up_alloc ?_ ?_; rotate_left; (first | omega | (simp <;> omega) | simp)) | (with_reducible refine up_set ?_ ?_; rotate_left; (first | omega | (simp <;> omega) | simp)) | (with_reducible refine Below.trans ?_ (Below.mono (by with_reducible assumption) ?_); rotate_left; (first | omega | (simp <;> omega) | simp))))⟩
  · have h3 : (p.k < q.k) = False := by simp [h1]
    by_cases h2 : p.k = q.k
    · have e1 : t = decide (z < 0) := by rw [ht2]; simp [h1, h2]
      have q2 : (p.k == q.k) = true := by simp [h2]
      clear ht2 h1
      replace e1 := hide e1
      replace h2 := hide h2
      go_wp2_with (go_at_call 156; refine (hC.out _ (by repeat (first | with_reducible exact Below.refl _ _ | with_reducible assumption | with_reducible refine up_drewN ?_ | with_reducible refine up_drew ?_ | (with_reducible refine up_alloc ?_ ?_; rotate_left; (first | omega | (simp <;> omega) | simp)) | (with_reducible refine up_set ?_ ?_; rotate_left; (first | omega | (simp <;> omega) | simp)) | (with_reducible refine Below.trans ?_ (Below.mono (by with_reducible assumption) ?_); rotate_left; (first | omega | (simp <;> omega) | simp))))).mono ?_; rintro e w1 ⟨rfl, k1, rfl⟩)
      go_ret
      exact ⟨ret_bool (by rw [e1.out]), (by repeat (first | with_reducible exact Below.refl _ _ | with_reducible assumption | with_reducible refine up_drewN ?_ | with_reducible refine up_drew ?_ | (with_reducible refine up_alloc ?_ ?_; rotate_left; (first | omega | (simp <;> omega) | simp)) | (with_reducible refine up_set ?_ ?_; rotate_left; (first | omega | (simp <;> omega) | simp)) | (with_reducible refine Below.trans ?_ (Below.mono (by with_reducible assumption) ?_); rotate_left; (first | omega | (simp <;> omega) | simp))))⟩
    · have e1 : t = false := by rw [ht2]; simp [h1, h2]
      have q2 : (p.k == q.k) = false := by simp [h2]
      clear ht2 h1 h2
      subst e1
      go_wp2
      go_ret
      exact ⟨rfl, (by repeat (first | with_reducible exact Below.refl _ _ | with_reducible assumption | with_reducible refine up_drewN ?_ | with_reducible refine up_drew ?_ | (with_reducible refine up_alloc ?_ ?_; rotate_left; (first | omega | (simp <;> omega) | simp)) | (with_reducible refine up_set ?_ ?_; rotate_left; (first | omega | (simp <;> omega) | simp)) | (with_reducible refine Below.trans ?_ (Below.mono (by with_reducible assumption) ?_); rotate_left; (first | omega | (simp <;> omega) | simp))))⟩
end Go.Proofs.Ytcehdpeeaogpiaa
