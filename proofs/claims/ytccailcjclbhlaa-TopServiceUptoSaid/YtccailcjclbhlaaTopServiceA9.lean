/-
  A part of the proof of ServePlays: AMR HeurA SLook FlatP Flat
-/
import Derived.Test.YtccailcjclbhlaaTopServiceA1
import Derived.BigQuiet
import Derived.Deep.QuietTactic
import Derived.Deep.RegionHeld3
import Derived.WalkSpells
import Derived.WalkLawsBesides
import Derived.Test.YtccailcjclbhlaaTopServiceA5
import Derived.BigRegion
/-! Several texts in one: -/
/-! What the functions of package ratio, and the reference's functions on fractions, return. Conditions: bounds on the numbers, as each theorem says. -/
namespace Go.Proofs.Ytccailcjclbhlaa
open Go.RowKit
set_option linter.unusedSimpArgs false
set_option linter.unusedVariables false

/-! ### plain numbers -/
def ratWithin (n : Int) : Bool := decide (-1000000 ≤ n ∧ n ≤ 1000000)
def gcdI (a b : Int) : Int := Int.gcd a b
theorem gcd_step (a b : Int) : gcdI b (a.tmod b) = gcdI a b := by
  simp only [gcdI, Int.gcd, Int.natAbs_tmod]
  rw [Nat.gcd_comm a.natAbs, Nat.gcd_rec b.natAbs a.natAbs, Nat.gcd_comm]
theorem tmod_abs (a b : Int) (h : b ≠ 0) : (a.tmod b).natAbs < b.natAbs := by
  rw [Int.natAbs_tmod]; exact Nat.mod_lt _ (by omega)
theorem gcd_zero (a : Int) : gcdI a 0 = max a (-a) := by
  unfold gcdI; simp; omega
theorem gcdI_pos (a b : Int) (h : 1 ≤ b) : 1 ≤ gcdI a b ∧ gcdI a b ≤ b := by
  unfold gcdI
  have h1 : 0 < Int.gcd a b := Int.gcd_pos_of_ne_zero_right _ (by omega)
  have h2 := Int.gcd_le_right a (show 0 < b by omega)
  omega

theorem within_any (n : Int) (w : World) : Calls Try.prog 64 #[.int .i64 n] w fun e w' => e = .returned (.bool (ratWithin n)) ∧ w = w' := by
  go_enter Try.func64, Try.ntmps64
  go_wp2
  all_goals
    go_ret
    refine ⟨?_, rfl⟩
    simp [ratWithin]
    try omega

theorem gcd_any (a b : Int) (ha : -4611686018427387904 ≤ a ∧ a ≤ 4611686018427387904) (hb : -4611686018427387904 ≤ b ∧ b ≤ 4611686018427387904) (w : World) :
    Calls Try.prog 66 #[.int .i64 a, .int .i64 b] w fun e w' => e = .returned (.int .i64 (gcdI a b)) ∧ ∃ n, w' = w.drewN n := by
  go_enter Try.func66, Try.ntmps66
  go_wp2
  go_loopw [0, 1] (fun x y wr => ∃ p q : Int, x = .int .i64 p ∧ y = .int .i64 q ∧ Hid (gcdI p q = gcdI a b) ∧ -4611686018427387904 ≤ p ∧ p ≤ 4611686018427387904 ∧ -4611686018427387904 ≤ q ∧ q ≤ 4611686018427387904 ∧ Hid (∃ n, wr = w.drewN n))
    (fun _ y _ => (intOf y).natAbs)
  case atStart => exact ⟨a, b, rfl, rfl, rfl, ha.1, ha.2, hb.1, hb.2, ⟨0, rfl⟩⟩
  case round =>
    obtain ⟨p, q, rfl, rfl, hg, hp1, hp2, hq1, hq2, hw⟩ := hrel
    by_cases h0 : q = 0
    · subst h0
      go_wp2
      all_goals
        go_ret
        refine ⟨ret_int ?_, hw.out⟩
        rw [← hg.out, gcd_zero]
        omega
    · have hq : (q == 0) = false := by simpa using h0
      have hq' : (q != 0) = true := by simpa using h0
      go_wp2
      go_quiet (fail)
      go_wp2
      go_roundw
      case rel =>
        refine ⟨q, p.tmod q, rfl, rfl, ?_, hq1, hq2, ?_, ?_, ?_⟩
        · rw [Hid, gcd_step]; exact hg.out
        · have := tmod_abs p q h0; omega
        · have := tmod_abs p q h0; omega
        · obtain ⟨n, hn⟩ := hw.out; exact ⟨n + nq, by rw [hn]; simp⟩
      case measure => simp only [intOf]; exact tmod_abs p q h0

def lst (n d : Int) : P2 := ⟨n.tdiv (gcdI n d), d / gcdI n d⟩
theorem least_any (n d : Int) (hn : -4611686018427387904 ≤ n ∧ n ≤ 4611686018427387904) (hd : 1 ≤ d ∧ d ≤ 4611686018427387904) (w : World) :
    Calls Try.prog 65 #[.int .i64 n, .int .i64 d] w fun e w' => e = .returned (.agg #[.int .i64 (lst n d).a, .int .i64 (lst n d).b]) ∧ Below w.heap.size w w' := by
  have hg := gcdI_pos n d hd.1
  go_enter Try.func65, Try.ntmps65
  go_wp2_with (go_at_call 66; refine (gcd_any _ _ (by omega) (by omega) _).mono ?_; rintro e w' ⟨rfl, m, rfl⟩)
  go_region
  all_goals
    go_wp2
    exact bodyPost_ret (v := .agg #[.int .i64 (lst n d).a, .int .i64 (lst n d).b]) (by simp [results, Try.results65, go_sem, lst]) rfl ⟨rfl, bel⟩

def mkErr (n d : Int) : Int := if d < 1 ∨ ratWithin n = false ∨ ratWithin d = false then 1 else 0
def mkVal (n d : Int) : P2 := if d < 1 ∨ ratWithin n = false ∨ ratWithin d = false then ⟨0, 0⟩ else lst n d
theorem ratWithin_iff (n : Int) : ratWithin n = true ↔ -1000000 ≤ n ∧ n ≤ 1000000 := by simp [ratWithin]
theorem make_any (n d : Int) (w : World) :
    Calls Try.prog 62 #[.int .i64 n, .int .i64 d] w fun e w' => e = .returned (.tuple #[.agg #[.int .i64 (mkVal n d).a, .int .i64 (mkVal n d).b], .int .i64 (mkErr n d)]) ∧ Below w.heap.size w w' := by
  by_cases h : d < 1 ∨ ratWithin n = false ∨ ratWithin d = false
  · have he : mkErr n d = 1 := by simp [mkErr, h]
    have hv : mkVal n d = ⟨0, 0⟩ := by simp [mkVal, h]
    rw [he, hv]
    clear he hv
    by_cases h1 : d < 1
    · go_enter Try.func62, Try.ntmps62
      go_wp2
      exact bodyPost_ret (v := .tuple #[.agg #[.int .i64 0, .int .i64 0], .int .i64 1]) (by simp [results, Try.results62, go_sem]) rfl ⟨rfl, bel⟩
    · by_cases h2 : ratWithin n = false
      · clear h
        go_enter Try.func62, Try.ntmps62
        go_wp2_with (go_at_call 64; refine (within_any _ _).mono ?_; rintro e w' ⟨rfl, rfl⟩)
        exact bodyPost_ret (v := .tuple #[.agg #[.int .i64 0, .int .i64 0], .int .i64 1]) (by simp [results, Try.results62, go_sem]) rfl ⟨rfl, bel⟩
      · have h3 : ratWithin d = false := by simp [h1, h2] at h; exact h
        have h2' : ratWithin n = true := by simpa using h2
        clear h h2
        go_enter Try.func62, Try.ntmps62
        go_wp2_with (go_at_call 64; refine (within_any _ _).mono ?_; rintro e w' ⟨rfl, rfl⟩)
        exact bodyPost_ret (v := .tuple #[.agg #[.int .i64 0, .int .i64 0], .int .i64 1]) (by simp [results, Try.results62, go_sem]) rfl ⟨rfl, bel⟩
  · have he : mkErr n d = 0 := by simp only [mkErr]; rw [if_neg h]
    have hv : mkVal n d = lst n d := by simp only [mkVal]; rw [if_neg h]
    rw [he, hv]
    clear he hv
    simp only [not_or, Bool.not_eq_false] at h
    obtain ⟨h1, h2, h3⟩ := h
    have b2 := (ratWithin_iff n).1 h2
    have b3 := (ratWithin_iff d).1 h3
    go_enter Try.func62, Try.ntmps62
    go_wp2_with (first | (go_at_call 64; refine (within_any _ _).mono ?_; rintro e w' ⟨rfl, rfl⟩) | (go_at_call 65; refine (least_any _ _ (by omega) (by omega) _).mono ?_; rintro e w1 ⟨rfl, hb⟩; obtain ⟨hc, hf⟩ := bcell hb; have hz := hb.size; simp at hz; have hz2 : w.heap.size < w1.heap.size := by omega))
    exact bodyPost_ret (v := .tuple #[.agg #[.int .i64 (lst n d).a, .int .i64 (lst n d).b], .int .i64 0]) (by simp [results, Try.results62, go_sem, hc, hz2]) rfl ⟨rfl, bel⟩

def chk (r : P2) : Int := if mkErr r.a r.b ≠ 0 ∨ (mkVal r.a r.b).a ≠ r.a ∨ (mkVal r.a r.b).b ≠ r.b then 3 else 0
theorem chk_any (r : P2) (w : World) :
    Calls Try.prog 58 #[.agg #[.int .i64 r.a, .int .i64 r.b]] w fun e w' => e = .returned (.int .i64 (chk r)) ∧ Below w.heap.size w w' := by
  go_enter Try.func58, Try.ntmps58
  go_wp2_with (go_at_call 62; refine (make_any _ _ _).mono ?_; rintro e w1 ⟨rfl, hb⟩; obtain ⟨hc, hf⟩ := bcell hb; have hz := hb.size; simp at hz; have hz2 : w.heap.size < w1.heap.size := by omega)
  all_goals
    go_ret
    refine ⟨ret_int ?_, bel⟩
    simp only [chk]
    split <;> omega

end Go.Proofs.Ytccailcjclbhlaa

/-! What the reference's functions on fractions return. Conditions: bounds on the numbers, as each theorem says. -/
namespace Go.Proofs.Ytccailcjclbhlaa
open Go.RowKit
set_option linter.unusedSimpArgs false
set_option linter.unusedVariables false


def rchk (r : P2) : Int := if r.b < 1 ∨ ratWithin r.b = false ∨ ratWithin r.a = false ∨ gcdI r.a r.b ≠ 1 then 3 else 0
end Go.Proofs.Ytccailcjclbhlaa

/-! The check of a fraction and the reference's check are one. No condition. -/
namespace Go.Proofs.Ytccailcjclbhlaa
theorem chk_rchk (r : P2) : chk r = rchk r := by
  by_cases h : r.b < 1 ∨ ratWithin r.a = false ∨ ratWithin r.b = false
  · have e1 : mkErr r.a r.b = 1 := by simp [mkErr, h]
    have e2 : chk r = 3 := by simp [chk, e1]
    rw [e2]
    simp only [rchk]
    rw [if_pos]
    rcases h with h | h | h <;> simp [h]
  · have e1 : mkErr r.a r.b = 0 := by simp only [mkErr]; rw [if_neg h]
    have e2 : mkVal r.a r.b = lst r.a r.b := by simp only [mkVal]; rw [if_neg h]
    simp only [not_or, Bool.not_eq_false] at h
    have hg := gcdI_pos r.a r.b (by omega)
    simp only [chk, rchk, e1, e2, lst, h.2.1, h.2.2]
    by_cases g1 : gcdI r.a r.b = 1
    · simp [g1]; omega
    · have hd : (gcdI r.a r.b) ∣ r.b := by unfold gcdI; exact Int.gcd_dvd_right ..
      have : r.b / gcdI r.a r.b ≠ r.b := by
        intro hh
        have h2 := Int.ediv_mul_cancel hd
        rw [hh] at h2
        have h3 : r.b * gcdI r.a r.b = r.b * 1 := by omega
        have := Int.eq_of_mul_eq_mul_left (by omega) h3
        exact g1 this
      simp [this, g1]

end Go.Proofs.Ytccailcjclbhlaa

/-! What weigh.Weight and the reference's Weight return: the same. No condition. -/
namespace Go.Proofs.Ytccailcjclbhlaa
open Go.RowKit
set_option linter.unusedSimpArgs false
set_option linter.unusedVariables false
def weighErr (r : P2) : Int := if chk r ≠ 0 then chk r else if r.a < r.b then 1 else 0
theorem weighErr_ok {r : P2} (h : weighErr r = 0) : 1 ≤ r.b ∧ r.b ≤ r.a ∧ r.a ≤ 1000000 := by
  unfold weighErr at h
  by_cases h1 : chk r = 0
  · rw [if_neg (by simpa using h1)] at h
    rw [chk_rchk] at h1
    unfold rchk at h1
    split at h1
    · omega
    · rename_i hc
      simp only [not_or, Int.not_lt, Bool.not_eq_false] at hc
      have h2 := (ratWithin_iff r.a).1 hc.2.2.1
      by_cases h3 : r.a < r.b
      · rw [if_pos h3] at h; omega
      · omega
  · rw [if_pos h1] at h; exact absurd h h1
theorem weight_any (r : P2) (w : World) : Calls Try.prog 52 #[.agg #[.int .i64 r.a, .int .i64 r.b]] w fun e w' => e = .returned (.int .i64 (weighErr r)) ∧ Below w.heap.size w w' := by
  have hC := hide (fun w => chk_any r w)
  obtain ⟨a, b⟩ := r
  simp only
  by_cases h0 : chk ⟨a, b⟩ = 0
  · have hr : weighErr ⟨a, b⟩ = if a < b then 1 else 0 := by unfold weighErr; rw [if_neg (by simpa using h0)]
    rw [hr]
    simp only [h0] at hC
    clear hr h0
    go_enter Try.func52, Try.ntmps52
    by_cases h1 : a < b
    · rw [if_pos h1]
      go_wp2_with fail
      refine (hC.out _).mono ?_
      rintro e w1 ⟨rfl, hb1⟩
      have k0 := cu_below hb1 (p := ⟨w.heap.size, 0, none⟩) (v := .int .i64 a) (by simp [go_sem]) (by simp)
      have k1 := cu_below hb1 (p := ⟨w.heap.size, 1, none⟩) (v := .int .i64 b) (by simp [go_sem]) (by simp)
      have hb2 := hide (((bel : Below w.heap.size w _)).trans (hb1.mono (by simp)))
      clear hb1
      go_wp2
      go_ret
      exact ⟨rfl, hb2.out⟩
    · rw [if_neg h1]
      go_wp2_with fail
      refine (hC.out _).mono ?_
      rintro e w1 ⟨rfl, hb1⟩
      have k0 := cu_below hb1 (p := ⟨w.heap.size, 0, none⟩) (v := .int .i64 a) (by simp [go_sem]) (by simp)
      have k1 := cu_below hb1 (p := ⟨w.heap.size, 1, none⟩) (v := .int .i64 b) (by simp [go_sem]) (by simp)
      have hb2 := hide (((bel : Below w.heap.size w _)).trans (hb1.mono (by simp)))
      clear hb1
      go_wp2
      go_ret
      exact ⟨rfl, hb2.out⟩
  · obtain ⟨er, her⟩ : ∃ er, er = chk ⟨a, b⟩ := ⟨_, rfl⟩
    have hr : weighErr ⟨a, b⟩ = er := by unfold weighErr; rw [if_pos h0, her]
    rw [hr]
    rw [← her] at hC h0
    have q0 : (er != 0) = true := by simpa using h0
    clear hr h0 her
    go_enter Try.func52, Try.ntmps52
    go_wp2_with fail
    refine (hC.out _).mono ?_
    rintro e w1 ⟨rfl, hb1⟩
    have hb2 := hide (((bel : Below w.heap.size w _)).trans (hb1.mono (by simp)))
    clear hb1
    go_wp2
    go_ret
    exact ⟨rfl, hb2.out⟩
end Go.Proofs.Ytccailcjclbhlaa
/-! Several texts in one: -/
/-! What heur.Check looks at, as lists. No program here. -/
namespace Go.Proofs.Ytccailcjclbhlaa
def hErr : List Int → Int | [] => 0 | x :: r => if x < 0 ∨ 1099511627776 < x then 1 else hErr r
def eErr (f : Nat → Int) : List Ed → Int | [] => 0 | e :: r => if e.c + f e.v.toNat < f e.u.toNat then 7 else eErr f r
def hAt (h : List Int) (i : Nat) : Int := h.getD i 0
def guessErr (N : Int) (es : List Ed) (t : Int) (h : List Int) : Int :=
  if lookErr N es [t] ≠ 0 then lookErr N es [t] else if (h.length : Int) ≠ N then 1 else if hErr h ≠ 0 then 1 else if hAt h t.toNat ≠ 0 then 7 else eErr (hAt h) es
theorem li_hAt (h : List Int) : LI h.length (hAt h) = h := by
  apply List.ext_getElem
  · simp [LI]
  · intro i h1 h2
    rw [li_get]
    simp [hAt, List.getD, List.getElem?_eq_getElem h2]
theorem hErr_hit {h : List Int} {k : Nat} (hk : k < h.length) (q : h[k] < 0 ∨ 1099511627776 < h[k]) : hErr (h.drop k) = 1 := by
  rw [List.drop_eq_getElem_cons hk, hErr, if_pos q]
theorem hErr_miss {h : List Int} {k : Nat} (hk : k < h.length) (q : ¬ (h[k] < 0 ∨ 1099511627776 < h[k])) : hErr (h.drop k) = hErr (h.drop (k + 1)) := by
  rw [List.drop_eq_getElem_cons hk, hErr, if_neg q]
theorem hErr_all : ∀ {h : List Int}, hErr h = 0 ↔ ∀ x ∈ h, 0 ≤ x ∧ x ≤ 1099511627776
  | [] => by simp [hErr]
  | y :: r => by
    unfold hErr
    split
    · rename_i q
      constructor
      · intro h; omega
      · intro h; have := h y (by simp); omega
    · rename_i q
      rw [hErr_all]
      constructor
      · intro h x hx
        rcases List.mem_cons.1 hx with rfl | hx
        · omega
        · exact h x hx
      · intro h x hx; exact h x (List.mem_cons_of_mem _ hx)
theorem hAt_range {h : List Int} (q : hErr h = 0) (i : Nat) : 0 ≤ hAt h i ∧ hAt h i ≤ 1099511627776 := by
  unfold hAt
  rw [List.getD]
  cases e : h[i]? with
  | none => simp
  | some x => exact hErr_all.1 q x (List.mem_of_getElem? e)
theorem eErr_hit {f : Nat → Int} {es : List Ed} {k : Nat} (hk : k < es.length) (q : es[k].c + f es[k].v.toNat < f es[k].u.toNat) : eErr f (es.drop k) = 7 := by
  rw [List.drop_eq_getElem_cons hk, eErr, if_pos q]
theorem eErr_miss {f : Nat → Int} {es : List Ed} {k : Nat} (hk : k < es.length) (q : ¬ es[k].c + f es[k].v.toNat < f es[k].u.toNat) : eErr f (es.drop k) = eErr f (es.drop (k + 1)) := by
  rw [List.drop_eq_getElem_cons hk, eErr, if_neg q]
end Go.Proofs.Ytccailcjclbhlaa

/-! What the reference's Guess returns. Condition: the slices read. -/
namespace Go.Proofs.Ytccailcjclbhlaa
open Go.RowKit
set_option linter.unusedSimpArgs false
set_option linter.unusedVariables false
end Go.Proofs.Ytccailcjclbhlaa

/-! What heur.Check and the reference's Guess return. Condition: the slices read. -/
namespace Go.Proofs.Ytccailcjclbhlaa
open Go.RowKit
set_option linter.unusedSimpArgs false
set_option linter.unusedVariables false
set_option maxRecDepth 100000 in
set_option maxHeartbeats 4000000 in
theorem hcheck_ok (n : Nat) (a : Option Addr) (cap : Nat) (es : List Ed) (t : Nat) (ah : Option Addr) (ch : Nat) (h : List Int) (w : World) (B : Nat) (hB : B ≤ w.heap.size) (hE : Row encE 3 w B a es) (hH : Row encI 1 w B ah h) (hl : es.length ≤ 9223372036854775807) (hl2 : h.length ≤ 9223372036854775807) (h0 : lookErr (n : Int) es [(t : Int)] = 0) :
    Calls Try.prog 51 #[.agg #[.int .i64 (n : Int), .slice a es.length cap], .int .i64 (t : Int), .slice ah h.length ch] w fun e w' => e = .returned (.int .i64 (guessErr (n : Int) es (t : Int) h)) ∧ Below w.heap.size w w' := by
  have hr0 := hide (show guessErr (n : Int) es (t : Int) h = if (h.length : Int) ≠ n then 1 else if hErr h ≠ 0 then 1 else if hAt h t ≠ 0 then 7 else eErr (hAt h) es by unfold guessErr; rw [if_neg (by simp [h0])]; simp)
  obtain ⟨g1, g2⟩ := look_ok h0
  obtain ⟨g3, g4⟩ := posErr_ok g1
  obtain ⟨n1, n2, n3, n4⟩ := netErr_ok g3
  have ht : t < n := by have := g2 t (by simp); omega
  have hes := hide (show Right n es from n4)
  have hL := hide (fun a1 c1 w B hB hE hP => by have := look_any (n : Int) a cap es a1 c1 1 [(t : Int)] rfl w B hB hE hP hl (by omega); rw [h0] at this; exact this)
  replace hE := hide hE
  replace hH := hide hH
  clear h0 g1 g2 g3 g4 n4
  by_cases hlen : h.length = n
  · have hr := hide (show guessErr (n : Int) es (t : Int) h = if hErr h ≠ 0 then 1 else if hAt h t ≠ 0 then 7 else eErr (hAt h) es by rw [hr0.out, if_neg (by omega)])
    subst hlen
    clear hr0
    go_enter Try.func51, Try.ntmps51
    go_wp2_with fail
    refine (hL.out _ _ _ (w.heap.size + 1 + 1) (by simp) ((hE.out.below (bel : Below w.heap.size w _) hB).mono (by omega)) ((row1 (by simp [go_sem])).mono (by simp))).mono ?_
    rintro e w1 ⟨rfl, hb1⟩
    have k0 : w1.cell? ⟨w.heap.size, 0, none⟩ = some (.int .i64 (h.length : Int)) := cu_below hb1 (by simp [go_sem]) (by simp <;> omega)
    have k1 : w1.cell? ⟨w.heap.size, 1, none⟩ = some (.slice a es.length cap) := cu_below hb1 (by simp [go_sem]) (by simp <;> omega)
    have hbw := hide (unalloc (unalloc (hb1.mono (by simp <;> omega)) (by simp)) (Nat.le_refl _) : Below w.heap.size w w1)
    have hz1 : w.heap.size < w1.heap.size := cell_lt k0
    clear hb1
    have hH1 := hide (hH.out.below hbw.out hB)
    go_wp2
    go_loopw [9, 26] (fun _ i wr => ∃ k : Nat, k ≤ h.length ∧ i = .int .i64 k ∧ Hid (hErr h = hErr (h.drop k)) ∧ w1 = wr) (fun _ i _ => h.length - (intOf i).toNat)
    case atStart => exact ⟨0, Nat.zero_le _, rfl, rfl, rfl⟩
    case round =>
      obtain ⟨k, hk, rfl, hrest, rfl⟩ := hrel
      by_cases hlt : k < h.length
      · obtain ⟨b, o, rfl, hbB, e1⟩ := hH1.out.int k hlt
        have hbl := cell_lt e1
        obtain ⟨x, hx⟩ : ∃ x, x = h[k] := ⟨_, rfl⟩
        rw [← hx] at e1
        replace hx := hide hx
        by_cases q : x < 0 ∨ 1099511627776 < x
        · have hq := hide (hErr_hit hlt (by rw [← hx.out]; exact q))
          have q2 : x < 0 ∨ (0 ≤ x ∧ 1099511627776 < x) := by omega
          clear q
          rcases q2 with q | ⟨q0, q⟩
          all_goals
            go_wp2
            go_ret
            exact ⟨ret_int (by rw [hr.out, hrest.out, hq.out, if_pos (by simp)]), hbw.out⟩
        · have hq := hide (hErr_miss hlt (by rw [← hx.out]; exact q))
          have q1 : 0 ≤ x := by omega
          have q2 : x ≤ 1099511627776 := by omega
          clear q
          go_wp2
          go_roundw
          case rel => exact ⟨k + 1, by omega, by go_num, hide (by rw [hrest.out, hq.out]), (by first | rfl | trivial)⟩
          case measure => simp [intOf]; omega
      · have hz : hErr h = 0 := by rw [hrest.out, List.drop_eq_nil_of_le (by omega)]; rfl
        have hf := hide (hAt_range hz)
        have hr2 := hide (show guessErr (h.length : Int) es (t : Int) h = if hAt h t ≠ 0 then 7 else eErr (hAt h) es by rw [hr.out, if_neg (by simp [hz])])
        have hHL : Row encI 1 w1 B ah (LI h.length (hAt h)) := by rw [li_hAt]; exact hH1.out
        clear hz hr hrest
        obtain ⟨b, o, rfl, hbB, e1⟩ := hHL.atI t ht
        replace hHL := hide hHL
        have hbl := cell_lt e1
        have it : (0 : Int) ≤ (t : Int) ∧ (t : Int) < (h.length : Int) := by omega
        obtain ⟨x, hx⟩ : ∃ x, x = hAt h t := ⟨_, rfl⟩
        rw [← hx] at e1
        replace hx := hide hx
        by_cases q : x = 0
        · subst q
          have hr3 := hide (show guessErr (h.length : Int) es (t : Int) h = eErr (hAt h) es by rw [hr2.out, if_neg (by simp [← hx.out])])
          clear hr2
          go_wp2
          go_loopw [45] (fun i wr => ∃ k : Nat, k ≤ es.length ∧ i = .int .i64 k ∧ Hid (eErr (hAt h) es = eErr (hAt h) (es.drop k)) ∧ Hid (Below w1.heap.size w1 wr)) (fun i _ => es.length - (intOf i).toNat)
          case atStart => exact ⟨0, Nat.zero_le _, rfl, rfl, Below.refl _ _⟩
          case round =>
            obtain ⟨k, hk, rfl, hrest, hb'⟩ := hrel
            have hbr := hide (hbw.out.trans (hb'.out.mono (by omega)))
            have hzr := hb'.out.size
            by_cases hlt : k < es.length
            · obtain ⟨u, v, d1, d2, d3, d4, d5, d6, -⟩ := right_edge hes.out k hlt
              obtain ⟨b2, o2, rfl, hbB2, c0, c1, c2⟩ := hE.out.ed k hlt
              have c0 := cu_below hbr.out c0 (by simp; omega)
              have c1 := cu_below hbr.out c1 (by simp; omega)
              have c2 := cu_below hbr.out c2 (by simp; omega)
              rw [d1] at c0
              rw [d2] at c1
              have hHr := (hHL.out.below hb'.out (by omega))
              obtain ⟨b3, o3, e3, hb3, f1⟩ := hHr.atI u d3
              simp only [Option.some.injEq, Addr.mk.injEq] at e3
              obtain ⟨rfl, rfl, _⟩ := e3
              obtain ⟨b3, o3, e3, _, f2⟩ := hHr.atI v d4
              simp only [Option.some.injEq, Addr.mk.injEq] at e3
              obtain ⟨rfl, rfl, _⟩ := e3
              have qe : (es[k].c + hAt h es[k].v.toNat < hAt h es[k].u.toNat) ↔ (es[k].c + hAt h v < hAt h u) := by rw [d1, d2]; simp
              have g1 := hf.out u
              have g2 := hf.out v
              have hit := eErr_hit (f := hAt h) hlt
              have miss := eErr_miss (f := hAt h) hlt
              rw [qe] at hit miss
              clear qe hHr
              obtain ⟨c, hc⟩ : ∃ c, c = es[k].c := ⟨_, rfl⟩
              obtain ⟨p, hp⟩ : ∃ p, p = hAt h u := ⟨_, rfl⟩
              obtain ⟨r, hr⟩ : ∃ r, r = hAt h v := ⟨_, rfl⟩
              rw [← hc] at hit miss c2 d5 d6
              rw [← hp] at hit miss f1 g1
              rw [← hr] at hit miss f2 g2
              replace hit := hide hit
              replace miss := hide miss
              replace hc := hide hc
              replace hp := hide hp
              replace hr := hide hr
              replace d1 := hide d1
              replace d2 := hide d2
              have l0 := cell_lt c0
              have l1 := cell_lt f1
              have k3 := cu_below hb'.out k1 hz1
              have iu : (0 : Int) ≤ (u : Int) ∧ (u : Int) < (h.length : Int) := by omega
              have iv : (0 : Int) ≤ (v : Int) ∧ (v : Int) < (h.length : Int) := by omega
              have ik : (0 : Int) ≤ (k : Int) ∧ (k : Int) < (es.length : Int) := by omega
              have hw := hide (show IntKind.i64.wrap (c + r) = c + r from IntWalk.i64_in _ (by omega))
              by_cases q : c + r < p
              · have hq := hide (hit.out q)
                go_wp2
                replace hw := hw.out
                go_quiet (fail)
                clear hw
                go_wp2
                go_ret
                exact ⟨ret_int (by rw [hr3.out, hrest.out, hq.out]), up_drewN (up_alloc hbr.out (by omega))⟩
              · have hq := hide (miss.out q)
                go_wp2
                replace hw := hw.out
                go_quiet (fail)
                clear hw
                go_wp2
                go_roundw
                case rel => exact ⟨k + 1, by omega, by go_num, hide (by rw [hrest.out]; exact hq.out), hide (up_drewN (up_alloc hb'.out hzr))⟩
                case measure => simp [intOf]; omega
            · go_wp2
              go_ret
              refine ⟨ret_int ?_, hbr.out⟩
              rw [hr3.out, hrest.out, List.drop_eq_nil_of_le (by omega)]
              rfl
        · have hr3 := hide (show guessErr (h.length : Int) es (t : Int) h = 7 by rw [hr2.out, if_pos (by rw [← hx.out]; exact q)])
          have q2 : (x != 0) = true := by simp [q]
          clear q hr2
          go_wp2
          go_ret
          exact ⟨ret_int hr3.out.symm, hbw.out⟩
  · have hr := hide (show guessErr (n : Int) es (t : Int) h = 1 by rw [hr0.out, if_pos (by omega)])
    have q0 : ((h.length : Int) != (n : Int)) = true := by simp; omega
    clear hr0 hlen
    go_enter Try.func51, Try.ntmps51
    go_wp2_with fail
    refine (hL.out _ _ _ (w.heap.size + 1 + 1) (by simp) ((hE.out.below (bel : Below w.heap.size w _) hB).mono (by omega)) ((row1 (by simp [go_sem])).mono (by simp))).mono ?_
    rintro e w1 ⟨rfl, hb1⟩
    have k0 : w1.cell? ⟨w.heap.size, 0, none⟩ = some (.int .i64 (n : Int)) := cu_below hb1 (by simp [go_sem]) (by simp <;> omega)
    have hbw := hide (unalloc (unalloc (hb1.mono (by simp <;> omega)) (by simp)) (Nat.le_refl _) : Below w.heap.size w w1)
    have hz1 : w.heap.size < w1.heap.size := cell_lt k0
    clear hb1
    go_wp2
    go_ret
    exact ⟨ret_int hr.out.symm, hbw.out⟩
end Go.Proofs.Ytccailcjclbhlaa

/-! What the reference's Guess returns, whole. Condition: the slices read. -/
namespace Go.Proofs.Ytccailcjclbhlaa
open Go.RowKit
set_option linter.unusedSimpArgs false
set_option linter.unusedVariables false
end Go.Proofs.Ytccailcjclbhlaa
/-! What star.Look and the reference's SearchLook return: the same. Conditions: that the arguments read. -/
namespace Go.Proofs.Ytccailcjclbhlaa
open Go.RowKit
set_option linter.unusedSimpArgs false
set_option linter.unusedVariables false
def slookErr (N : Int) (es : List Ed) (x1 x2 : Int) (h : List Int) : Int := if lookErr N es [x1, x2] ≠ 0 then lookErr N es [x1, x2] else guessErr N es x2 h
theorem slook_ok {N : Int} {es : List Ed} {x1 x2 : Int} (h0 : lookErr N es [x1, x2] = 0) (h : List Int) : ∃ n : Nat, N = (n : Int) ∧ 1 ≤ n ∧ n ≤ 64 ∧ (es.length ≤ 600 ∧ Right n es ∧ ∀ e ∈ es, 1 ≤ e.c) ∧ ∃ t : Nat, x2 = (t : Int) ∧ t < n ∧ lookErr N es [x2] = 0 ∧ slookErr N es x1 x2 h = guessErr N es x2 h := by
  obtain ⟨g1, g2⟩ := look_ok h0
  obtain ⟨g3, g4⟩ := posErr_ok g1
  obtain ⟨n1, n2, n3, n4⟩ := netErr_ok g3
  obtain ⟨n, rfl⟩ := Int.eq_ofNat_of_zero_le (show 0 ≤ N by omega)
  have g6 := g2 x2 (by simp)
  obtain ⟨t, rfl⟩ := Int.eq_ofNat_of_zero_le g6.1
  refine ⟨n, rfl, by omega, by omega, ⟨n3, n4, g4⟩, t, rfl, by omega, ?_, ?_⟩
  · unfold lookErr
    rw [if_neg (by simp [g1])]
    unfold plErr
    rw [if_neg (by omega)]
    rfl
  · unfold slookErr
    rw [if_neg (by simp [h0])]
/-- all that a search may lean on -/
theorem slook_all {N : Int} {es : List Ed} {x1 x2 : Int} {h : List Int} (h0 : slookErr N es x1 x2 h = 0) : ∃ n v t : Nat, N = (n : Int) ∧ x1 = (v : Int) ∧ x2 = (t : Int) ∧ 1 ≤ n ∧ n ≤ 64 ∧ es.length ≤ 600 ∧ Right n es ∧ (∀ e ∈ es, 1 ≤ e.c) ∧ v < n ∧ t < n ∧ h.length = n ∧ (∀ u, 0 ≤ hAt h u ∧ hAt h u ≤ 1099511627776) ∧ hAt h t = 0 ∧ eErr (hAt h) es = 0 := by
  by_cases hl : lookErr N es [x1, x2] = 0
  · obtain ⟨n, rfl, a1, a2, ⟨a3, a4, a5⟩, t, rfl, a6, a7, a8⟩ := slook_ok hl h
    have g5 := (look_ok hl).2 x1 (by simp)
    obtain ⟨v, rfl⟩ := Int.eq_ofNat_of_zero_le g5.1
    rw [a8] at h0
    unfold guessErr at h0
    rw [if_neg (by simp [a7])] at h0
    by_cases b1 : (h.length : Int) ≠ (n : Int)
    · rw [if_pos b1] at h0; omega
    · rw [if_neg b1] at h0
      by_cases b2 : hErr h ≠ 0
      · rw [if_pos b2] at h0; omega
      · rw [if_neg b2] at h0
        by_cases b3 : hAt h ((t : Int)).toNat ≠ 0
        · rw [if_pos b3] at h0; omega
        · rw [if_neg b3] at h0
          exact ⟨n, v, t, rfl, rfl, rfl, a1, a2, a3, a4, a5, by omega, a6, by omega, fun u => hAt_range (by simpa using b2) u, by simpa using b3, h0⟩
  · unfold slookErr at h0
    rw [if_pos hl] at h0
    exact absurd h0 hl
set_option maxHeartbeats 1000000 in
theorem slook_any (N : Int) (a : Option Addr) (cap : Nat) (es : List Ed) (x1 x2 : Int) (ah : Option Addr) (ch : Nat) (h : List Int) (w : World) (B : Nat) (hB : B ≤ w.heap.size) (hE : Row encE 3 w B a es) (hH : Row encI 1 w B ah h) (hl : es.length ≤ 9223372036854775807) (hl2 : h.length ≤ 9223372036854775807) :
    Calls Try.prog 32 #[.agg #[.int .i64 N, .slice a es.length cap], .int .i64 x1, .int .i64 x2, .slice ah h.length ch] w fun e w' => e = .returned (.int .i64 (slookErr N es x1 x2 h)) ∧ Below w.heap.size w w' := by
  have hL := hide (fun (b : Nat) (w : World) (hE : Row encE 3 w w.heap.size a es) (hP : Row encI 1 w w.heap.size (some ⟨b, 0, none⟩) [x1, x2]) => look_any N a cap es (some ⟨b, 0, none⟩) 2 2 [x1, x2] rfl w w.heap.size (Nat.le_refl _) hE hP hl (by omega))
  obtain ⟨er, her⟩ : ∃ er, er = lookErr N es [x1, x2] := ⟨_, rfl⟩
  by_cases h0 : lookErr N es [x1, x2] = 0
  · obtain ⟨n, rfl, _, _, _, t, rfl, _, h2, hr⟩ := slook_ok h0 h
    have hC := hide (fun (w' : World) (hb : Below w.heap.size w w') => hcheck_ok n a cap es t ah ch h w' B (Nat.le_trans hB hb.size) (hE.below hb hB) (hH.below hb hB) hl hl2 h2)
    obtain ⟨ge, hge⟩ : ∃ ge, ge = guessErr (n : Int) es (t : Int) h := ⟨_, rfl⟩
    have hfin := hide (show slookErr (n : Int) es x1 (t : Int) h = ge by rw [hr, hge])
    rw [← hge] at hC
    have hL2 : Hid (∀ (b : Nat) (w : World), Row encE 3 w w.heap.size a es → Row encI 1 w w.heap.size (some ⟨b, 0, none⟩) [x1, (t : Int)] → Calls Try.prog 25 #[.agg #[.int .i64 (n : Int), .slice a es.length cap], .slice (some ⟨b, 0, none⟩) 2 2] w fun e w' => e = .returned (.int .i64 0) ∧ Below w.heap.size w w') := hide (fun b w q1 q2 => by have := hL.out b w q1 q2; rw [h0] at this; exact this)
    have hrow := hide (fun (w' : World) (hb : Below w.heap.size w w') => (hE.below hb hB).mono (Nat.le_trans hB hb.size))
    clear hL h0 h2 hr hE hH
    replace hge := hide hge
    replace her := hide her
    go_enter Try.func32, Try.ntmps32
    go_wp2_with fail
    refine Calls.mono (hL2.out _ _ (hrow.out _ (by exact bel)) (row2 (by simp [go_sem]) (by simp [go_sem]))) ?_
    rintro e w1 ⟨rfl, hb1⟩
    have k0 := cu_below hb1 (p := ⟨w.heap.size, 0, none⟩) (v := .int .i64 (n : Int)) (by simp [go_sem]) (by simp; omega)
    have k1 := cu_below hb1 (p := ⟨w.heap.size, 1, none⟩) (v := .slice a es.length cap) (by simp [go_sem]) (by simp; omega)
    have hb2 := hide (((bel : Below w.heap.size w _)).trans (hb1.mono (by simp; omega)))
    clear hb1
    go_wp2_with fail
    refine (hC.out _ hb2.out).mono ?_
    rintro e w2 ⟨rfl, hb3⟩
    go_wp2
    go_ret
    exact ⟨ret_int hfin.out.symm, hb2.out.trans (hb3.mono hb2.out.size)⟩
  · have hfin := hide (show slookErr N es x1 x2 h = er by unfold slookErr; rw [if_pos h0, her])
    have q0 : (er != 0) = true := by rw [her]; simpa using h0
    rw [← her] at hL
    have hrow := hide (fun (w' : World) (hb : Below w.heap.size w w') => (hE.below hb hB).mono (Nat.le_trans hB hb.size))
    clear h0 hE hH
    replace her := hide her
    go_enter Try.func32, Try.ntmps32
    go_wp2_with fail
    refine Calls.mono (hL.out _ _ (hrow.out _ (by exact bel)) (row2 (by simp [go_sem]) (by simp [go_sem]))) ?_
    rintro e w1 ⟨rfl, hb1⟩
    have hb2 := hide (((bel : Below w.heap.size w _)).trans (hb1.mono (by simp; omega)))
    clear hb1
    go_wp2
    go_ret
    exact ⟨ret_int hfin.out.symm, hb2.out⟩
end Go.Proofs.Ytccailcjclbhlaa
/-! What net.Copy and john.flat return. Conditions: a right net, heights in bounds. -/
namespace Go.Proofs.Ytccailcjclbhlaa
open Go.RowKit
set_option linter.unusedSimpArgs false
set_option linter.unusedVariables false
def NetGot (e0 : TypeId) (N : Int) (es : List Ed) (w : World) (e : Ending) (w' : World) : Prop := ∃ v, e = .returned (.agg #[.int .i64 N, v]) ∧ Own encE 3 e0 w' w.heap.size v es ∧ Below w.heap.size w w'
/-- what holds while john.flat runs: the result's place, the copy at w1's end, its edges so far -/
structure FlI (w w1 : World) (n : Nat) (a0 : Option Addr) (m c0 : Nat) (es : List Ed) (wr : World) : Prop where
  r0 : wr.cell? ⟨w.heap.size + 1, 0, none⟩ = some (.int .i64 0)
  r1 : wr.cell? ⟨w.heap.size + 1, 1, none⟩ = some (.slice none 0 0)
  f0 : wr.frozen? ⟨w.heap.size + 1, 0, none⟩ = false
  f1 : wr.frozen? ⟨w.heap.size + 1, 1, none⟩ = false
  o0 : wr.cell? ⟨w1.heap.size, 0, none⟩ = some (.int .i64 (n : Int))
  o1 : wr.cell? ⟨w1.heap.size, 1, none⟩ = some (.slice a0 m c0)
  own : Own encE 3 69 wr (w.heap.size + 1 + 1) (.slice a0 m c0) es
  bel : Below w.heap.size w wr
  low : w.heap.size + 1 < w1.heap.size
  old : ∀ b, (Value.slice a0 m c0).ownBlock = some b → b < w1.heap.size
section
variable {w w1 wr w' : World} {n m c0 : Nat} {a0 : Option Addr} {es : List Ed}
end
set_option maxRecDepth 100000 in
set_option maxHeartbeats 2000000 in
theorem copy_any (N : Int) (a : Option Addr) (cap : Nat) (es : List Ed) (w : World) (B : Nat) (hB : B ≤ w.heap.size) (hE : Row encE 3 w B a es) (hl : es.length ≤ 100000) :
    Calls Try.prog 34 #[.agg #[.int .i64 N, .slice a es.length cap]] w (NetGot 69 N es w) := by
  obtain ⟨m, hm⟩ : ∃ m, m = es.length := ⟨_, rfl⟩
  rw [← hm] at hl ⊢
  replace hm := hide hm
  replace hE := hide hE
  go_enter Try.func34, Try.ntmps34
  go_wp2
  obtain ⟨w0, h0⟩ : ∃ w0, w0 = ((w.alloc (.cells #[.int .i64 N, .slice a m cap] 41)).alloc (.cells #[.int .i64 0, .slice none 0 0] 41)) := ⟨_, rfl⟩
  have hB0 : Below w.heap.size w w0 := by rw [h0]; exact bel
  have k0 : w0.cell? ⟨w.heap.size, 0, none⟩ = some (.int .i64 N) := by rw [h0]; simp [go_sem]
  have k1 : w0.cell? ⟨w.heap.size, 1, none⟩ = some (.slice a m cap) := by rw [h0]; simp [go_sem]
  have r0 : w0.cell? ⟨w.heap.size + 1, 0, none⟩ = some (.int .i64 0) := by rw [h0]; simp [go_sem]
  have r1 : w0.cell? ⟨w.heap.size + 1, 1, none⟩ = some (.slice none 0 0) := by rw [h0]; simp [go_sem]
  have f0 : w0.frozen? ⟨w.heap.size + 1, 0, none⟩ = false := by rw [h0]; simp [go_sem]
  have f1 : w0.frozen? ⟨w.heap.size + 1, 1, none⟩ = false := by rw [h0]; simp [go_sem]
  have hz : w.heap.size + 1 < w0.heap.size := cell_lt r0
  have hz' : w.heap.size < w0.heap.size := by omega
  have hE0 := hide ((hE.out.below hB0 hB).mono (show B ≤ w0.heap.size by omega))
  simp only [← h0]
  replace hB0 := hide hB0
  clear h0
  go_region_law (first
    | (refine step_pushAll (base := w0.heap.size) (xs := ([] : List Ed)) (v := .slice none 0 0) rfl (.const (.slice none 0 0)) (.tmp 6) 39 rfl _ 24 Try.underlying39 info_ed rfl (by omega) lenE oneE 0 rfl rfl (Own.nil _ _) w0.heap.size a m cap es hm.out.symm rfl ?_ (by omega) (by unfold maxLen; omega) (Nat.le_refl _) ?_; (next => first | exact hE0.out | exact hE0.out.below (below_drew _) (Nat.le_refl _)); intro a4 c4 w4 own4 hb4 hg4; have j0 := cu_below hb4 r0 hz; have j1 := cu_below hb4 r1 hz; have j2 := fu_below hb4 f0 hz; have j3 := fu_below hb4 f1 hz; have hz4 := hb4.size; have i0 := cu_below hb4 k0 hz'; have i1 := cu_below hb4 k1 hz'))
  all_goals
    have hb4' : Below w0.heap.size w0 w4 := by first | exact hb4 | exact (below_drew w0).trans hb4
    have own5 : Own encE 3 69 w4 w0.heap.size (.slice a4 m c4) es := by simpa using own4
    have hne : ∀ {b : Nat}, b < w0.heap.size → (Value.slice a4 m c4).ownBlock ≠ some b := fun {b} hb e => by have := (own5.block_lt b e).1; omega
    have own6 := hide (((own5.elsewhere (p := ⟨w.heap.size + 1, 0, none⟩) (hne hz) (.int .i64 N)).elsewhere (p := ⟨w.heap.size + 1, 1, none⟩) (hne hz) (.slice a4 m c4)).base_le (show w.heap.size ≤ w0.heap.size by omega))
    have hbf := hide (((hB0.out.trans (hb4'.mono (by omega))).setCell (p := ⟨w.heap.size + 1, 0, none⟩) (by simp) (.int .i64 N)).setCell (p := ⟨w.heap.size + 1, 1, none⟩) (by simp) (.slice a4 m c4))
    clear own4 own5 hne hb4 hb4' hg4
    go_wp2
    refine bodyPost_ret (v := .agg #[.int .i64 N, .slice a4 m c4]) (by simp [results, Try.results34, go_sem, j0, j1, hz4]) rfl ⟨_, rfl, own6.out, hbf.out⟩
end Go.Proofs.Ytccailcjclbhlaa
