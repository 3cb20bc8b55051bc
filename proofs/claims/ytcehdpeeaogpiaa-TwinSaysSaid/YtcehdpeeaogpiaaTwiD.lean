/-
  What twin.Two returns: an error, or two walks that share no edge and cost least. Conditions: that the arguments read.
-/
import Derived.Test.YtcehdpeeaogpiaaTwiC
import Derived.Test.YtcehdpeeaogpiaaTwiF
import Derived.Test.YtcehdpeeaogpiaaNetL
import Derived.Deep.RegionLaw
namespace Go.Proofs.Ytcehdpeeaogpiaa
open Go.RowKit
set_option linter.unusedSimpArgs false
set_option linter.unusedVariables false
def tlookErr (N : Int) (es : List Ed) (x1 x2 : Int) : Int := if lookErr N es [x1, x2] ≠ 0 then lookErr N es [x1, x2] else if x1 = x2 then 1 else 0
theorem tlook_ok {N : Int} {es : List Ed} {x1 x2 : Int} (h0 : tlookErr N es x1 x2 = 0) : ∃ n s t : Nat, N = (n : Int) ∧ x1 = (s : Int) ∧ x2 = (t : Int) ∧ 1 ≤ n ∧ n ≤ 64 ∧ es.length ≤ 600 ∧ Right n es ∧ (∀ e ∈ es, 1 ≤ e.c) ∧ s < n ∧ t < n ∧ s ≠ t ∧ lookErr N es [x1, x2] = 0 := by
  unfold tlookErr at h0
  by_cases hl : lookErr N es [x1, x2] = 0
  · rw [if_neg (by simp [hl])] at h0
    obtain ⟨g1, g2⟩ := look_ok hl
    obtain ⟨g3, g4⟩ := posErr_ok g1
    obtain ⟨n1, n2, n3, n4⟩ := netErr_ok g3
    obtain ⟨n, rfl⟩ := Int.eq_ofNat_of_zero_le (show 0 ≤ N by omega)
    have g5 := g2 x1 (by simp)
    have g6 := g2 x2 (by simp)
    obtain ⟨s, rfl⟩ := Int.eq_ofNat_of_zero_le g5.1
    obtain ⟨t, rfl⟩ := Int.eq_ofNat_of_zero_le g6.1
    refine ⟨n, s, t, rfl, rfl, rfl, by omega, by omega, n3, n4, g4, by omega, by omega, fun e => ?_, hl⟩
    subst e
    rw [if_pos rfl] at h0
    cases h0
  · rw [if_pos hl] at h0
    exact absurd h0 hl
theorem row2t {w : World} {b : Nat} {x y : Int} (h0 : w.cell? ⟨b, 0, none⟩ = some (.int .i64 x)) (h1 : w.cell? ⟨b, 1, none⟩ = some (.int .i64 y)) : Row encI 1 w w.heap.size (some ⟨b, 0, none⟩) [x, y] := by
  intro i hi
  refine ⟨b, 0, rfl, cell_lt h0, fun j u hj => ?_⟩
  match i, hi, j, hj with
  | 0, _, 0, hj => simp [encI] at hj; subst hj; simpa using h0
  | 1, _, 0, hj => simp [encI] at hj; subst hj; simpa using h1
/-- no two walks are apart -/
def TwoNo (es : List Ed) (f t : Nat) : Prop := ∀ a b : List Nat, WkL es f a t → WkL es f b t → (a ++ b).Nodup → False
/-- two that are, and cost least -/
structure TwoYes (es : List Ed) (f t : Nat) (A B : List Nat) : Prop where
  ex : ∃ π U, Opt es π U ∧ (∀ v, balU es U v = 2 * (ind f v - ind t v)) ∧ (∀ i ∈ A ++ B, U i = true)
  wa : WkL es f A t
  wb : WkL es f B t
  nd : (A ++ B).Nodup
theorem two_bal {es : List Ed} {f t : Nat} {a b : List Nat} (ha : WkL es f a t) (hb : WkL es f b t) (hd : (a ++ b).Nodup) (v : Nat) : balU es (inL2 (a ++ b)) v = 2 * (ind f v - ind t v) := by
  have hl : ∀ i ∈ a ++ b, i < es.length := fun i hi => by
    rcases List.mem_append.1 hi with hi | hi
    · exact wkl_lt ha i hi
    · exact wkl_lt hb i hi
  rw [bal_list hd hl, List.map_append, List.sum_append, wkl_sum v ha, wkl_sum v hb]
  omega
theorem opt_none {es : List Ed} (hp : ∀ e ∈ es, 1 ≤ e.c) : Opt es (fun _ => 0) (fun _ => false) := by
  intro i hi
  have := hp _ (edN_mem hi)
  unfold rcA arcN ec
  simp
  omega
theorem bal_none (es : List Ed) (v : Nat) (x : Int) : balU es (fun _ => false) v = 0 * x := by
  unfold balU balN
  simp [isum_zero]
theorem keep_step {S : Nat → Prop} {W w' w7 : World} (h : Below W.heap.size W w') (k : Keep S w' w7) : Keep S W w7 := (Keep.new h).trans k
theorem rw_repT (n : Nat) : List.replicate n false = RW n (fun _ => false) := rw_rep n false
/-- what holds while Two runs -/
structure TD (w : World) (n m : Nat) (a : Option Addr) (cap gu : Nat) (V : Nat → Bool) (wr : World) : Prop where
  c0 : wr.cell? ⟨w.heap.size, 0, none⟩ = some (.int .i64 (n : Int))
  c1 : wr.cell? ⟨w.heap.size, 1, none⟩ = some (.slice a m cap)
  q0 : wr.cell? ⟨w.heap.size + 1, 0, none⟩ = some (.slice none 0 0)
  q1 : wr.cell? ⟨w.heap.size + 1, 1, none⟩ = some (.int .i64 0)
  fq : ∀ o, wr.frozen? ⟨w.heap.size + 1, o, none⟩ = false
  r0 : wr.cell? ⟨w.heap.size + 1 + 1, 0, none⟩ = some (.slice none 0 0)
  r1 : wr.cell? ⟨w.heap.size + 1 + 1, 1, none⟩ = some (.int .i64 0)
  fr : ∀ o, wr.frozen? ⟨w.heap.size + 1 + 1, o, none⟩ = false
  used : Own encB 1 4 wr w.heap.size (.slice (some ⟨gu, 0, none⟩) m m) (RW m V)
  gt : w.heap.size + 1 + 1 < gu
  bel : Below w.heap.size w wr
namespace TD
section
variable {w : World} {n m : Nat} {a : Option Addr} {cap gu : Nat} {V V' : Nat → Bool} {wr w' : World}
theorem later (h : TD w n m a cap gu V wr) (hk : Keep (fun k => k = gu) wr w') (own : Own encB 1 4 w' w.heap.size (.slice (some ⟨gu, 0, none⟩) m m) (RW m V')) : TD w n m a cap gu V' w' := by
  have hg := h.gt
  have l1 := cell_lt h.c0
  have l2 := cell_lt h.q0
  have l3 := cell_lt h.r0
  exact ⟨hk.cu h.c0 (by simp; omega), hk.cu h.c1 (by simp; omega), hk.cu h.q0 (by simp; omega), hk.cu h.q1 (by simp; omega), fun o => (hk.frozen (p := ⟨w.heap.size + 1, o, none⟩) l2 (by simp; omega)).trans (h.fq o), hk.cu h.r0 (by simp; omega), hk.cu h.r1 (by simp; omega), fun o => (hk.frozen (p := ⟨w.heap.size + 1 + 1, o, none⟩) l3 (by simp; omega)).trans (h.fr o), own, h.gt, h.bel.trans (hk.toBelow (fun k hk => by omega) h.bel.size)⟩
theorem stays (h : TD w n m a cap gu V wr) (hb : Below wr.heap.size wr w') : TD w n m a cap gu V w' := h.later (Keep.new hb) (h.used.stays hb)
theorem low (h : TD w n m a cap gu V wr) : w.heap.size < wr.heap.size ∧ w.heap.size + 1 < wr.heap.size ∧ w.heap.size + 1 + 1 < wr.heap.size := ⟨cell_lt h.c0, cell_lt h.q0, cell_lt h.r0⟩
end
end TD
theorem pb_ownT {e : TypeId} {w : World} {base : Nat} {a : Option Addr} {n c : Nat} {p : List Nat} (k : Int) (h : Own encI 1 e w base (.slice a n c) (NI p)) : PB w ⟨a, n, c, k, p⟩ := by
  obtain ⟨a', c', hv, hr, h1, h2⟩ := h.row lenI
  injection hv with q1 q2 q3
  subst q1 q3
  exact ⟨by rw [q2, ni_len], by simp only; omega, by unfold maxLen at h2; exact h2, hr⟩
set_option maxHeartbeats 2000000 in
theorem two_bad (N : Int) (a : Option Addr) (cap : Nat) (es : List Ed) (x1 x2 : Int) (w : World) (B : Nat) (hB : B ≤ w.heap.size) (hE : Row encE 3 w B a es) (hl : es.length ≤ 9223372036854775807) (h0 : tlookErr N es x1 x2 ≠ 0) :
    Calls Try.prog 76 #[.agg #[.int .i64 N, .slice a es.length cap], .int .i64 x1, .int .i64 x2] w fun e w' => e = .returned (.tuple #[.agg #[.slice none 0 0, .int .i64 0], .agg #[.slice none 0 0, .int .i64 0], .int .i64 (tlookErr N es x1 x2)]) ∧ Below w.heap.size w w' := by
  have hL := hide (fun (b : Nat) (w : World) (hE : Row encE 3 w w.heap.size a es) (hP : Row encI 1 w w.heap.size (some ⟨b, 0, none⟩) [x1, x2]) => look_any N a cap es (some ⟨b, 0, none⟩) 2 2 [x1, x2] rfl w w.heap.size (Nat.le_refl _) hE hP hl (by omega))
  have hrow := hide (fun (w' : World) (hb : Below w.heap.size w w') => (hE.below hb hB).mono (Nat.le_trans hB hb.size))
  clear hE
  obtain ⟨er, her⟩ : ∃ er, er = lookErr N es [x1, x2] := ⟨_, rfl⟩
  have hfin := (show tlookErr N es x1 x2 = if er ≠ 0 then er else if x1 = x2 then 1 else 0 by unfold tlookErr; rw [her])
  rw [← her] at hL
  replace her := hide her
  rw [hfin] at h0 ⊢
  clear hfin
  by_cases he : er = 0
  · subst he
    by_cases h12 : x1 = x2
    · subst h12
      simp only [ne_eq, not_true_eq_false, if_false, if_true]
      have q1 : (x1 == x1) = true := by simp
      clear h0
      go_enter Try.func76, Try.ntmps76
      go_wp2_with fail
      refine Calls.mono (hL.out _ _ (hrow.out _ (by exact (by repeat (first | with_reducible exact Below.refl _ _ | with_reducible assumption | with_reducible refine up_drewN ?_ | with_reducible refine up_drew ?_ | (with_reducible refine up_alloc ?_ ?_; rotate_left; (first | omega | (simp <;> omega) | simp)) | (with_reducible refine up_set ?_ ?_; rotate_left; (first | omega | (simp <;> omega) | simp)) | (with_reducible refine Below.trans ?_ (Below.mono (by with_reducible assumption) ?_); rotate_left; (first | omega | (simp <;> omega) | simp)))))) (row2t (by simp [go_sem]) (by simp [go_sem]))) ?_
      rintro e w1 ⟨rfl, hb1⟩
      have hb2 := hide ((((by repeat (first | with_reducible exact Below.refl _ _ | with_reducible assumption | with_reducible refine up_drewN ?_ | with_reducible refine up_drew ?_ | (with_reducible refine up_alloc ?_ ?_; rotate_left; (first | omega | (simp <;> omega) | simp)) | (with_reducible refine up_set ?_ ?_; rotate_left; (first | omega | (simp <;> omega) | simp)) | (with_reducible refine Below.trans ?_ (Below.mono (by with_reducible assumption) ?_); rotate_left; (first | omega | (simp <;> omega) | simp)))) : Below w.heap.size w _)).trans (hb1.mono (by simp; omega)))
      obtain ⟨hc1, hf1⟩ := bcell hb1; have hz1 : w.heap.size < w1.heap.size := (by have := hb1.size; (try simp at this); omega)
      clear hb1
      go_wp2
      refine bodyPost_ret (v := .tuple #[.agg #[.slice none 0 0, .int .i64 0], .agg #[.slice none 0 0, .int .i64 0], .int .i64 1]) (by simp [results, Try.results76, go_sem, hc1, hf1]; (try omega)) rfl ?_
      exact ⟨rfl, by repeat (first | exact hb2.out | (refine Below.setCell ?_ (by simp; (try omega)) _))⟩
    · simp only [ne_eq, not_true_eq_false, if_false, if_neg h12] at h0
  · rw [if_pos he]
    have q0 : (er != 0) = true := by simp [he]
    clear h0 he
    go_enter Try.func76, Try.ntmps76
    go_wp2_with fail
    refine Calls.mono (hL.out _ _ (hrow.out _ (by exact (by repeat (first | with_reducible exact Below.refl _ _ | with_reducible assumption | with_reducible refine up_drewN ?_ | with_reducible refine up_drew ?_ | (with_reducible refine up_alloc ?_ ?_; rotate_left; (first | omega | (simp <;> omega) | simp)) | (with_reducible refine up_set ?_ ?_; rotate_left; (first | omega | (simp <;> omega) | simp)) | (with_reducible refine Below.trans ?_ (Below.mono (by with_reducible assumption) ?_); rotate_left; (first | omega | (simp <;> omega) | simp)))))) (row2t (by simp [go_sem]) (by simp [go_sem]))) ?_
    rintro e w1 ⟨rfl, hb1⟩
    have hb2 := hide ((((by repeat (first | with_reducible exact Below.refl _ _ | with_reducible assumption | with_reducible refine up_drewN ?_ | with_reducible refine up_drew ?_ | (with_reducible refine up_alloc ?_ ?_; rotate_left; (first | omega | (simp <;> omega) | simp)) | (with_reducible refine up_set ?_ ?_; rotate_left; (first | omega | (simp <;> omega) | simp)) | (with_reducible refine Below.trans ?_ (Below.mono (by with_reducible assumption) ?_); rotate_left; (first | omega | (simp <;> omega) | simp)))) : Below w.heap.size w _)).trans (hb1.mono (by simp; omega)))
    obtain ⟨hc1, hf1⟩ := bcell hb1; have hz1 : w.heap.size < w1.heap.size := (by have := hb1.size; (try simp at this); omega)
    clear hb1
    go_wp2
    refine bodyPost_ret (v := .tuple #[.agg #[.slice none 0 0, .int .i64 0], .agg #[.slice none 0 0, .int .i64 0], .int .i64 er]) (by simp [results, Try.results76, go_sem, hc1, hf1]; (try omega)) rfl ?_
    exact ⟨rfl, by repeat (first | exact hb2.out | (refine Below.setCell ?_ (by simp; (try omega)) _))⟩
def TwoAns (es : List Ed) (f t : Nat) (w : World) (e : Ending) (w' : World) : Prop :=
  Below w.heap.size w w' ∧ ((TwoNo es f t ∧ e = .returned (.tuple #[.agg #[.slice none 0 0, .int .i64 0], .agg #[.slice none 0 0, .int .i64 0], .int .i64 5])) ∨
    ∃ (A B : List Nat) (x y : Yv), TwoYes es f t A B ∧ e = .returned (.tuple #[.agg #[.slice x.a x.n x.c, .int .i64 x.k], .agg #[.slice y.a y.n y.c, .int .i64 y.k], .int .i64 0]) ∧ PB w' x ∧ PB w' y ∧ x.p = plc es f A ∧ y.p = plc es f B ∧ x.k = sumE es A ∧ y.k = sumE es B)
set_option maxRecDepth 100000 in
set_option maxHeartbeats 4000000 in
theorem two_ok (n : Nat) (a : Option Addr) (cap : Nat) (es : List Ed) (f t : Nat) (w : World) (B : Nat) (hB : B ≤ w.heap.size) (hE : Row encE 3 w B a es) (hn1 : 1 ≤ n) (hn : n ≤ 64) (hl : es.length ≤ 600) (hes : Right n es) (hp : ∀ e ∈ es, 1 ≤ e.c) (hf : f < n) (ht : t < n) (hft : f ≠ t) (h0 : lookErr (n : Int) es [(f : Int), (t : Int)] = 0) :
    Calls Try.prog 76 #[.agg #[.int .i64 (n : Int), .slice a es.length cap], .int .i64 (f : Int), .int .i64 (t : Int)] w (TwoAns es f t w) := by
  have hL := hide (fun (b : Nat) (w : World) (hE : Row encE 3 w w.heap.size a es) (hP : Row encI 1 w w.heap.size (some ⟨b, 0, none⟩) [(f : Int), (t : Int)]) => by have := look_any (n : Int) a cap es (some ⟨b, 0, none⟩) 2 2 [(f : Int), (t : Int)] rfl w w.heap.size (Nat.le_refl _) hE hP (by omega) (by omega); rw [h0] at this; exact this)
  have hrow := hide (fun (w' : World) (hb : Below w.heap.size w w') => (hE.below hb hB).mono (Nat.le_trans hB hb.size))
  have hrowB := hide (fun (w' : World) (hb : Below w.heap.size w w') => hE.below hb hB)
  have hCar := hide (fun (gu : Nat) (U : Nat → Bool) (π : Nat → Int) (wr : World) (hD : TD w n es.length a cap gu U wr) (ho : Opt es π U) (hπ : ∀ v, 0 ≤ π v) (hπf : π f = 0) => carry_any n a cap es gu es.length w.heap.size U π f t wr B (Nat.le_trans hB hD.bel.size) (hE.below hD.bel hB) hn1 hn hl hes hf ht hD.used (by have := hD.gt; omega) ho hπ hπf)
  have hFol := hide (fun (gu : Nat) (U : Nat → Bool) (q : Int) (wr : World) (hD : TD w n es.length a cap gu U wr) (hb : ∀ v, balU es U v = q * (ind f v - ind t v)) (hq : 1 ≤ q) => follow_any n a cap es gu es.length w.heap.size U q f t wr B (Nat.le_trans hB hD.bel.size) (hE.below hD.bel hB) hl hes hD.used (by have := hD.gt; omega) hb hq)
  have hNo := hide (fun (k : Int) (U : Nat → Bool) (π : Nat → Int) (s : TS) (hk : k ≤ 1) (ho : Opt es π U) (hb : ∀ v, balU es U v = k * (ind f v - ind t v)) (h : TI (arcN es U) es.length n π f s) (hq : ∀ j, j < es.length → ¬ Gives (arcN es U) s.d j) (hd : s.d t = FAR) => (show TwoNo es f t from fun x y hx hy hxy => by have := carry_no (j := 2) hes hn hf ht ho hb h hq hd (two_bal hx hy hxy); omega))
  have hYes := hide (fun (k : Int) (U : Nat → Bool) (π : Nat → Int) (s : TS) (l : List Nat) (ho : Opt es π U) (hπ : ∀ v, 0 ≤ π v) (hπf : π f = 0) (hb : ∀ v, balU es U v = k * (ind f v - ind t v)) (h : TI (arcN es U) es.length n π f s) (hq : ∀ j, j < es.length → ¬ Gives (arcN es U) s.d j) (hd : s.d t < FAR) (hc : PCh (arcN es U) es.length s.p f t l) => carry_yes hes hn ho hπ hπf hb h hq hd hc)
  have ho0 := hide (opt_none hp)
  have hft2 : ((f : Int) == (t : Int)) = false := by simp; omega
  clear hE h0 hp
  replace hes := hide hes
  obtain ⟨m, hm⟩ : ∃ m, m = es.length := ⟨_, rfl⟩
  have hml : m ≤ 600 := by omega
  rw [← hm] at hCar hFol hL
  simp only [← hm]
  replace hm := hide hm
  go_enter Try.func76, Try.ntmps76
  go_wp2_with fail
  refine Calls.mono (hL.out _ _ (hrow.out _ (by exact (by repeat (first | with_reducible exact Below.refl _ _ | with_reducible assumption | with_reducible refine up_drewN ?_ | with_reducible refine up_drew ?_ | (with_reducible refine up_alloc ?_ ?_; rotate_left; (first | omega | (simp <;> omega) | simp)) | (with_reducible refine up_set ?_ ?_; rotate_left; (first | omega | (simp <;> omega) | simp)) | (with_reducible refine Below.trans ?_ (Below.mono (by with_reducible assumption) ?_); rotate_left; (first | omega | (simp <;> omega) | simp)))))) (row2t (by simp [go_sem]) (by simp [go_sem]))) ?_
  rintro e w1 ⟨rfl, hb1⟩
  have hB1 := hide ((((by repeat (first | with_reducible exact Below.refl _ _ | with_reducible assumption | with_reducible refine up_drewN ?_ | with_reducible refine up_drew ?_ | (with_reducible refine up_alloc ?_ ?_; rotate_left; (first | omega | (simp <;> omega) | simp)) | (with_reducible refine up_set ?_ ?_; rotate_left; (first | omega | (simp <;> omega) | simp)) | (with_reducible refine Below.trans ?_ (Below.mono (by with_reducible assumption) ?_); rotate_left; (first | omega | (simp <;> omega) | simp)))) : Below w.heap.size w _)).trans (hb1.mono (by simp; omega)))
  have c0 : w1.cell? ⟨w.heap.size, 0, none⟩ = some (.int .i64 (n : Int)) := cu_below hb1 (by simp [go_sem]) (by simp <;> omega)
  have c1 : w1.cell? ⟨w.heap.size, 1, none⟩ = some (.slice a m cap) := cu_below hb1 (by simp [go_sem]) (by simp <;> omega)
  have q0 := hide (show w1.cell? ⟨w.heap.size + 1, 0, none⟩ = some (.slice none 0 0) from cu_below hb1 (by simp [go_sem]) (by simp <;> omega))
  have q1 := hide (show w1.cell? ⟨w.heap.size + 1, 1, none⟩ = some (.int .i64 0) from cu_below hb1 (by simp [go_sem]) (by simp <;> omega))
  have fq := hide (show ∀ o, w1.frozen? ⟨w.heap.size + 1, o, none⟩ = false from fun o => fu_below hb1 (by simp [go_sem]) (by simp <;> omega))
  have r0 := hide (show w1.cell? ⟨w.heap.size + 1 + 1, 0, none⟩ = some (.slice none 0 0) from cu_below hb1 (by simp [go_sem]) (by simp <;> omega))
  have r1 := hide (show w1.cell? ⟨w.heap.size + 1 + 1, 1, none⟩ = some (.int .i64 0) from cu_below hb1 (by simp [go_sem]) (by simp <;> omega))
  have fr := hide (show ∀ o, w1.frozen? ⟨w.heap.size + 1 + 1, o, none⟩ = false from fun o => fu_below hb1 (by simp [go_sem]) (by simp <;> omega))
  have z0 : w.heap.size < w1.heap.size := cell_lt c0
  have z2 : w.heap.size + 1 + 1 < w1.heap.size := cell_lt r0.out
  have z1 : w.heap.size + 1 < w1.heap.size := cell_lt q0.out
  clear hb1 hrow hL
  obtain ⟨gu, hgu⟩ : ∃ gu, gu = w1.heap.size := ⟨_, rfl⟩
  go_wp2_with (at_make; (refine wpList_mk (e := 4) (enc := encB) rfl (.tmp 29) 52 rfl (.bool false) 1 false Try.underlying52 info_bool rfl rfl (m) ?e12 ?e22 ?e32 (w.heap.size) ?e42 ?_); (case e12 => rfl); (case e22 => omega); (case e32 => unfold maxLen; omega); (case e42 => first | omega | (simp; done) | (simp; omega)); intro w2 own2 hb2 hsz2; have hD1 : Hid (TD w n m a cap gu (fun _ => false) w2) := hide ⟨cu_below hb2 c0 z0, cu_below hb2 c1 z0, cu_below hb2 q0.out z1, cu_below hb2 q1.out z1, fun o => fu_below hb2 (fq.out o) z1, cu_below hb2 r0.out z2, cu_below hb2 r1.out z2, fun o => fu_below hb2 (fr.out o) z2, by have h3 := own2; rw [rw_repT] at h3; rw [hgu]; exact h3, by omega, hB1.out.trans (hb2.mono hB1.out.size)⟩; replace own2 := hide own2; replace hb2 := hide hb2; have c2 := hD1.out.c0; have c3 := hD1.out.c1; have z3 := hD1.out.low.1; clear hsz2)
  simp only [← hgu]
  replace hgu := hide hgu
  clear c0 c1 own2 hb2 q0 q1 fq r0 r1 fr z2 z1 z0 hB1
  refine (hCar.out gu _ (fun _ => 0) w2 hD1.out ho0.out (fun _ => Int.le_refl _) rfl).mono ?_
  rintro e w3 ⟨s, U1, ok, rfl, kp, own3, hT, hq, hno, hyes⟩
  rw [← hm.out] at own3
  have hD2 := hide (hD1.out.later kp own3)
  clear kp own3 c2 c3 z3
  have c2 := hD2.out.c0
  have c3 := hD2.out.c1
  have z3 := hD2.out.low.1
  cases ok with
  | false =>
    obtain ⟨h1, -⟩ := hno rfl
    have hN := hide (hNo.out 0 _ _ s (by omega) ho0.out (fun v => bal_none es v _) hT hq h1)
    have q0 := hD2.out.q0
    have q1 := hD2.out.q1
    have fq := hD2.out.fq
    have r0 := hD2.out.r0
    have r1 := hD2.out.r1
    have fr := hD2.out.fr
    obtain ⟨-, z4, z5⟩ := hD2.out.low
    clear hT hq hno hyes h1 hD1
    go_wp2
    refine bodyPost_ret (v := .tuple #[.agg #[.slice none 0 0, .int .i64 0], .agg #[.slice none 0 0, .int .i64 0], .int .i64 5]) (by simp [results, Try.results76, go_sem, q0, q1, r0, r1, z4, z5]) rfl ?_
    exact ⟨by repeat (first | exact hD2.out.bel | (refine Below.setCell ?_ (by simp; (try omega)) _)), .inl ⟨hN.out, rfl⟩⟩
  | true =>
    obtain ⟨h1, l1, hc1, rfl⟩ := hyes rfl
    obtain ⟨ho1, hp1, hpf1, hb1⟩ := hYes.out 0 _ _ s l1 ho0.out (fun _ => Int.le_refl _) rfl (fun v => bal_none es v _) hT hq h1 hc1
    obtain ⟨U1, hU1⟩ : ∃ U1, U1 = flipL (fun _ => false) l1 := ⟨_, rfl⟩
    rw [← hU1] at ho1 hb1 hD2
    replace hU1 := hide hU1
    obtain ⟨p1, hpi⟩ : ∃ p1, p1 = newPi (fun _ => 0) s.d := ⟨_, rfl⟩
    rw [← hpi] at ho1 hp1 hpf1
    replace hpi := hide hpi
    replace ho1 := hide ho1
    replace hp1 := hide hp1
    replace hpf1 := hide hpf1
    replace hb1 := hide hb1
    clear hT hq hno hyes h1 hc1 hD1
    go_wp2_with fail
    refine (hCar.out gu _ p1 w3 hD2.out ho1.out hp1.out hpf1.out).mono ?_
    rintro e w4 ⟨s2, U2, ok, rfl, kp, own4, hT, hq, hno, hyes⟩
    rw [← hm.out] at own4
    have hD3 := hide (hD2.out.later kp own4)
    clear kp own4 c2 c3 z3
    have c2 := hD3.out.c0
    have c3 := hD3.out.c1
    have z3 := hD3.out.low.1
    cases ok with
    | false =>
      obtain ⟨h1, -⟩ := hno rfl
      have hN := hide (hNo.out (0 + 1) _ _ s2 (by omega) ho1.out hb1.out hT hq h1)
      have q0 := hD3.out.q0
      have q1 := hD3.out.q1
      have fq := hD3.out.fq
      have r0 := hD3.out.r0
      have r1 := hD3.out.r1
      have fr := hD3.out.fr
      obtain ⟨-, z4, z5⟩ := hD3.out.low
      clear hT hq hno hyes h1 hD2
      go_wp2
      refine bodyPost_ret (v := .tuple #[.agg #[.slice none 0 0, .int .i64 0], .agg #[.slice none 0 0, .int .i64 0], .int .i64 5]) (by simp [results, Try.results76, go_sem, q0, q1, r0, r1, z4, z5]) rfl ?_
      exact ⟨by repeat (first | exact hD3.out.bel | (refine Below.setCell ?_ (by simp; (try omega)) _)), .inl ⟨hN.out, rfl⟩⟩
    | true =>
      obtain ⟨h1, l2, hc2, rfl⟩ := hyes rfl
      obtain ⟨ho2, -, -, hb2⟩ := hYes.out (0 + 1) _ _ s2 l2 ho1.out hp1.out hpf1.out hb1.out hT hq h1 hc2
      obtain ⟨U2, hU2⟩ : ∃ U2, U2 = flipL U1 l2 := ⟨_, rfl⟩
      rw [← hU2] at ho2 hb2 hD3
      replace hU2 := hide hU2
      have hb2' : ∀ v, balU es U2 v = 2 * (ind f v - ind t v) := hb2
      replace hb2' := hide hb2'
      replace ho2 := hide ho2
      clear hT hq hno hyes h1 hc2 hD2 hb2 ho1 hp1 hpf1 hb1
      go_wp2_with fail
      refine (hFol.out gu U2 2 w4 hD3.out hb2'.out (by omega)).mono ?_
      rintro e w5 ⟨A, av, ma, cv, rfl, hFA, ownA, own5, kp⟩
      rw [← hm.out] at own5
      have hD4 := hide (hD3.out.later kp own5)
      have hgz : gu < w4.heap.size := hD3.out.used.at_base.2
      have hbA := hide (fun v => fi_end hFA hb2'.out v)
      have hz45 : w4.heap.size ≤ w5.heap.size := kp.size
      clear kp own5 c2 c3 z3 hD3
      replace hFA := hide hFA
      replace ownA := hide ownA
      obtain ⟨kA, hkA⟩ : ∃ kA, kA = sumE es A := ⟨_, rfl⟩
      simp only [← hkA]
      replace hkA := hide hkA
      go_upto_region 10 with fail
      obtain ⟨W6, h6⟩ : ∃ W6, W6 = w5.alloc (.cells #[.slice av ma cv, .int .i64 kA] 36) := ⟨_, rfl⟩
      obtain ⟨b11, hb11⟩ : ∃ b, b = w5.heap.size := ⟨_, rfl⟩
      have x0 : W6.cell? ⟨b11, 0, none⟩ = some (.slice av ma cv) := by rw [h6, hb11]; simp [go_sem]
      have x1 : W6.cell? ⟨b11, 1, none⟩ = some (.int .i64 kA) := by rw [h6, hb11]; simp [go_sem]
      have hb6 : Below w5.heap.size w5 W6 := by rw [h6]; exact (Below.refl _ _).alloc (Nat.le_refl _) _
      have hD5 := hide (hD4.out.stays hb6)
      have oA := hide (ownA.out.stays hb6)
      have hgb : gu < b11 ∧ b11 < W6.heap.size ∧ w4.heap.size ≤ W6.heap.size := by have := hD4.out.used.at_base.2; rw [h6]; simp; omega
      simp only [← h6]
      simp only [← hb11]
      replace h6 := hide h6
      replace hb11 := hide hb11
      have hF6 := hide (fun (w' : World) (hb : Below W6.heap.size W6 w') => hFol.out gu (lessU U2 A) (2 - 1) w' (hD5.out.stays hb) hbA.out (by omega))
      have c2 := hD5.out.c0
      have c3 := hD5.out.c1
      have z3 := hD5.out.low.1
      have hgt := hD5.out.gt
      clear hb6 hD4 ownA hFol hCar hNo hYes hrowB
      go_region_law (first
        | (go_simp; go_at_call 160; refine (hF6.out _ (by first | exact below_drew _ | exact Below.refl _ _)).mono ?_; rintro e w7 ⟨Bl, bv, mb, cb, rfl, hFB, ownB, own7, kp7⟩; have kp8 := keep_step (by first | exact below_drew _ | exact Below.refl _ _) kp7; rw [← hm.out] at own7; have hD7 := hide (hD5.out.later kp8 own7); have y0 := kp8.cu x0 (by simp; omega); have y1 := kp8.cu x1 (by simp; omega); have q0 := hD7.out.q0; have q1 := hD7.out.q1; have fq := hD7.out.fq; have r0 := hD7.out.r0; have r1 := hD7.out.r1; have fr := hD7.out.fr; have z7 := hD7.out.low.2; have zb : b11 < w7.heap.size := cell_lt y0; replace hFB := hide hFB; replace own7 := hide own7; replace kp7 := hide kp7; have oA7 := hide (kp8.own oA.out (fun k hk e => by have := (oA.out.block_lt k hk).1; omega)); replace kp8 := hide kp8; have oB7 := hide (ownB.base_le (show w4.heap.size ≤ _ by simp; omega)); clear ownB))
      all_goals
        obtain ⟨kB, hkB⟩ : ∃ kB, kB = sumE es Bl := ⟨_, rfl⟩
        simp only [← hkB]
        replace hkB := hide hkB
        have hw4 : w.heap.size + 1 + 1 < w4.heap.size := by omega
        have hfin := hide (show ∀ w' : World, w' = (((w7.setCell ⟨w.heap.size + 1, 0, none⟩ (.slice av ma cv)).setCell ⟨w.heap.size + 1, 1, none⟩ (.int .i64 kA)).setCell ⟨w.heap.size + 1 + 1, 0, none⟩ (.slice bv mb cb)).setCell ⟨w.heap.size + 1 + 1, 1, none⟩ (.int .i64 kB) → TwoAns es f t w (.returned (.tuple #[.agg #[.slice av ma cv, .int .i64 kA], .agg #[.slice bv mb cb, .int .i64 kB], .int .i64 0])) w' from by
          rintro w' rfl
          have sep : ∀ {v : Value} {xs : List Int}, Own encI 1 3 w7 w4.heap.size v xs → v.ownBlock ≠ some (w.heap.size + 1) ∧ v.ownBlock ≠ some (w.heap.size + 1 + 1) := fun h => ⟨fun e => by have := (h.block_lt _ e).1; omega, fun e => by have := (h.block_lt _ e).1; omega⟩
          have s1 := sep oA7.out
          have s2 := sep oB7.out
          have h2 := fi_two hFA.out hFB.out
          refine ⟨(((hD7.out.bel.setCell (by simp) _).setCell (by simp) _).setCell (by simp; omega) _).setCell (by simp; omega) _, .inr ⟨A, Bl, ⟨av, ma, cv, kA, plc es f A⟩, ⟨bv, mb, cb, kB, plc es f Bl⟩, ⟨⟨_, U2, ho2.out, hb2'.out, h2.2⟩, hFA.out.wk, hFB.out.wk, h2.1⟩, rfl, ?_, ?_, rfl, rfl, hkA.out, hkB.out⟩⟩
          · exact pb_ownT kA ((((oA7.out.elsewhere s1.1 _).elsewhere s1.1 _).elsewhere s1.2 _).elsewhere s1.2 _)
          · exact pb_ownT kB ((((oB7.out.elsewhere s2.1 _).elsewhere s2.1 _).elsewhere s2.2 _).elsewhere s2.2 _))
        clear hFA hFB oA7 oB7 hD7 kp8 kp7 own7 hF6 oA hD5 hbA x0 x1 c2 c3 z3
        go_wp2
        refine bodyPost_ret (v := .tuple #[.agg #[.slice av ma cv, .int .i64 kA], .agg #[.slice bv mb cb, .int .i64 kB], .int .i64 0]) (by simp [results, Try.results76, go_sem, q0, q1, r0, r1, z7]) rfl (hfin.out _ rfl)
end Go.Proofs.Ytcehdpeeaogpiaa
