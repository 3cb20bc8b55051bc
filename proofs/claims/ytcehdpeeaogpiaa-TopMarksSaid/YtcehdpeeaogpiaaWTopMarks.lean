/-
  The walk of felltop.TopMarks: it returns true. Conditions: the arguments read as data.
-/
import Derived.Test.YtcehdpeeaogpiaaTopMW
import Derived.Test.YtcehdpeeaogpiaaClone
import Derived.Test.YtcehdpeeaogpiaaPushAll
import Derived.Test.YtcehdpeeaogpiaaOpen
import Derived.Deep.RegionLaw
import Derived.Deep.DeepCutAuto
import Derived.BigRegion
import Derived.BigQuiet
import Derived.Deep.QuietTactic
namespace Go.Proofs.Ytcehdpeeaogpiaa
open Go.RowKit
set_option linter.unusedSimpArgs false
set_option linter.unusedVariables false
/-- no more than the first of a slice -/
theorem row_takeI {w : World} {B : Nat} {a : Option Addr} {xs : List Int} (h : Row encI 1 w B a xs) (k : Nat) : Row encI 1 w B a (xs.take k) := by
  intro i hi
  have hi' : i < xs.length := by rw [List.length_take] at hi; omega
  obtain ⟨b, o, h1, h2, h3⟩ := h i hi'
  refine ⟨b, o, h1, h2, fun j u hu => h3 j u ?_⟩
  rwa [List.getElem_take] at hu
set_option maxRecDepth 100000 in
set_option maxHeartbeats 8000000 in
theorem walk_TopMarks (x0 : Int) (a0 : Option Addr) (cap0 : Nat) (es0 : List Ed) (x1 : Int) (x2 : Int) (a3 : Option Addr) (cap3 : Nat) (x3 : List Int) (w : World) (b0 : Bd x0) (l0 : es0.length ≤ cap0) (m0 : cap0 ≤ maxLen) (r0 : Row encE 3 w w.heap.size a0 es0) (be0 : ∀ x ∈ es0, BdE x) (b1 : Bd x1) (b2 : Bd x2) (l3 : x3.length ≤ cap3) (m3 : cap3 ≤ maxLen) (r3 : Row encI 1 w w.heap.size a3 x3) (b3 : ∀ x ∈ x3, Bd x) :
    Calls Try.prog 4 #[.agg #[.int .i64 x0, .slice a0 es0.length cap0], .int .i64 x1, .int .i64 x2, .slice a3 x3.length cap3] w fun e w' => e = .returned (.bool true) ∧ Below w.heap.size w w' := by
  have hl : es0.length ≤ 9223372036854775807 := by unfold maxLen at m0; omega
  have hl3 : x3.length ≤ 9223372036854775807 := by unfold maxLen at m3; omega
  obtain ⟨q, hq⟩ : ∃ q, q = min x3.length 3 := ⟨_, rfl⟩
  have hq3 : q ≤ 3 := by omega
  have hqc : q ≤ cap3 := by omega
  have hqm : min (x3.length : Int) 3 = (q : Int) := by omega
  obtain ⟨ms, hms⟩ : ∃ ms, ms = x3.take q := ⟨_, rfl⟩
  have hml : ms.length = q := by rw [hms, List.length_take]; omega
  have hM0 := hide (show Row encI 1 w w.heap.size a3 ms by rw [hms]; exact row_takeI r3 q)
  replace r0 := hide r0
  replace hms := hide hms
  replace hml := hide hml
  replace hqm := hide hqm
  clear r3 be0 b3 hq
  have hBg := hide begun_any
  have hO1 := hide (fun (w' : World) (hb : Below w.heap.size w w') => hof_all x0 a0 cap0 es0 a3 cap3 q ms hml.out x2 w' w.heap.size hb.size (r0.out.below hb (Nat.le_refl _)) (hM0.out.below hb (Nat.le_refl _)) hl (by omega))
  have hCl := hide (fun (w' : World) (hb : Below w.heap.size w w') => cloneI a3 cap3 q ms w' w.heap.size hb.size hml.out (hM0.out.below hb (Nat.le_refl _)) (by omega))
  have hO2 := hide (fun (w' : World) (hb : Below w.heap.size w w') (am : Option Addr) (cm : Nat) (hM : Row encI 1 w' w'.heap.size am (ms ++ [x2])) => hof_all x0 a0 cap0 es0 am cm (q + 1) (ms ++ [x2]) (by rw [List.length_append, hml.out]; rfl) x2 w' w'.heap.size (Nat.le_refl _) ((r0.out.below hb (Nat.le_refl _)).mono hb.size) hM hl (by omega))
  have hLk := hide (fun (b : Nat) (w' : World) (hb : Below w.heap.size w w') (hP : Row encI 1 w' w'.heap.size (some ⟨b, 0, none⟩) [x1]) => look_any x0 a0 cap0 es0 (some ⟨b, 0, none⟩) 1 1 [x1] rfl w' w'.heap.size (Nat.le_refl _) ((r0.out.below hb (Nat.le_refl _)).mono hb.size) hP hl (by omega))
  obtain ⟨G, hG⟩ : ∃ G : List Int → Option Addr → Nat → World → Prop, G = fun l a m w' => markErr x0 es0 l = 0 ∧ lookErr x0 es0 [x2] = 0 ∧ m = x0.toNat ∧ Row encI 1 w' w'.heap.size a (ofList x0.toNat es0 l x2.toNat x0.toNat) := ⟨_, rfl⟩
  have hGs := hide (show ∀ l a m w' w'', G l a m w' → Below w'.heap.size w' w'' → G l a m w'' by rw [hG]; exact fun l a m w' w'' h hb => ⟨h.1, h.2.1, h.2.2.1, (h.2.2.2.below hb (Nat.le_refl _)).mono hb.size⟩)
  unfold OfAns at hO1 hO2
  have hG1 := hide (show ∀ (w' : World), Below w.heap.size w w' → Calls Try.prog 21 #[.agg #[.int .i64 x0, .slice a0 es0.length cap0], .slice a3 q cap3, .int .i64 x2] w' (fun e w'' => ∃ a m c er, e = .returned (.tuple #[.slice a m c, .int .i64 er]) ∧ Below w'.heap.size w' w'' ∧ (er = 0 → G ms a m w'')) by rw [hG]; exact hO1.out)
  have hG2 := hide (show ∀ (w' : World), Below w.heap.size w w' → ∀ (am : Option Addr) (cm : Nat), Row encI 1 w' w'.heap.size am (ms ++ [x2]) → Calls Try.prog 21 #[.agg #[.int .i64 x0, .slice a0 es0.length cap0], .slice am (q + 1) cm, .int .i64 x2] w' (fun e w'' => ∃ a m c er, e = .returned (.tuple #[.slice a m c, .int .i64 er]) ∧ Below w'.heap.size w' w'' ∧ (er = 0 → G (ms ++ [x2]) a m w'')) by rw [hG]; exact hO2.out)
  unfold OwnBack at hCl
  replace hG := hide hG
  clear hO1 hO2
  go_enter Try.func4, Try.ntmps4
  go_upto_region 2 with fail
  obtain ⟨z, hz⟩ : ∃ z : Int, z = if (3 : Int) < (x3.length : Int) then 3 else (x3.length : Int) := ⟨_, rfl⟩
  have hzq : z.toNat = q := by have := hqm.out; rw [hz]; split <;> omega
  simp only [← hz, hzq]
  replace hz := hide hz
  replace hzq := hide hzq
  obtain ⟨w0, h0⟩ : ∃ w0, w0 = w.alloc (.cells #[.int .i64 x0, .slice a0 es0.length cap0] 24) := ⟨_, rfl⟩
  have hB0 := hide (show Below w.heap.size w w0 by rw [h0]; exact (by repeat (first | with_reducible exact Below.refl _ _ | with_reducible assumption | with_reducible refine up_drewN ?_ | with_reducible refine up_drew ?_ | (with_reducible refine up_alloc ?_ ?_; rotate_left; (first | omega | (simp <;> omega) | simp)) | (with_reducible refine up_set ?_ ?_; rotate_left; (first | omega | (simp <;> omega) | simp)) | (with_reducible refine Below.trans ?_ (Below.mono (by with_reducible assumption) ?_); rotate_left; (first | omega | (simp <;> omega) | simp)))))
  have k0 : w0.cell? ⟨w.heap.size, 0, none⟩ = some (.int .i64 x0) := by rw [h0]; simp [go_sem]
  have k1 : w0.cell? ⟨w.heap.size, 1, none⟩ = some (.slice a0 es0.length cap0) := by rw [h0]; simp [go_sem]
  simp only [← h0]
  have hz0 : w.heap.size < w0.heap.size := cell_lt k0
  replace h0 := hide h0
  go_wp2_with fail
  refine (hG1.out _ hB0.out).mono ?_
  rintro e w1 ⟨av, mv, cv, er1, rfl, hb1, hgood1⟩
  have k0 := cu_below hb1 k0 hz0
  have k1 := cu_below hb1 k1 hz0
  have hz1 : w.heap.size < w1.heap.size := cell_lt k0
  have hbw1 := hide (hB0.out.trans (hb1.mono (by omega)))
  replace hgood1 := hide hgood1
  clear hb1 hB0 hG1
  go_upto_region 3 with fail
  go_cut [11, 12] (fun s11 s12 wx => ∃ (bv : Option Addr) (m2 c2 : Nat) (er2 : Int), s11 = .slice bv m2 c2 ∧ s12 = .int .i64 er2 ∧ Hid (Below w1.heap.size w1 wx) ∧ Hid (er2 = 0 → G (ms ++ [x2]) bv m2 wx))
  case first =>
    have hqb : q ≤ 3 := hq3
    go_region_law (first
      | (go_simp; go_at_call 22; refine (hCl.out _ (hbw1.out.trans (Below.mono (B := w1.heap.size) (by exact (by repeat (first | with_reducible exact Below.refl _ _ | with_reducible assumption | with_reducible refine up_drewN ?_ | with_reducible refine up_drew ?_ | (with_reducible refine up_alloc ?_ ?_; rotate_left; (first | omega | (simp <;> omega) | simp)) | (with_reducible refine up_set ?_ ?_; rotate_left; (first | omega | (simp <;> omega) | simp)) | (with_reducible refine Below.trans ?_ (Below.mono (by with_reducible assumption) ?_); rotate_left; (first | omega | (simp <;> omega) | simp))))) (by omega)))).mono ?_; rintro e w5 ⟨a5, c5, rfl, own5, hb5⟩; have hb6 := (show Below w1.heap.size w1 w5 from (by repeat (first | with_reducible exact Below.refl _ _ | with_reducible assumption | with_reducible refine up_drewN ?_ | with_reducible refine up_drew ?_ | (with_reducible refine up_alloc ?_ ?_; rotate_left; (first | omega | (simp <;> omega) | simp)) | (with_reducible refine up_set ?_ ?_; rotate_left; (first | omega | (simp <;> omega) | simp)) | (with_reducible refine Below.trans ?_ (Below.mono (by with_reducible assumption) ?_); rotate_left; (first | omega | (simp <;> omega) | simp))))); have own6 := hide (own5.base_le (show w1.heap.size ≤ _ by first | exact Nat.le_refl _ | (simp; done) | (simp; omega))); have k5 := cu_below hb6 k0 hz1; have k6 := cu_below hb6 k1 hz1; have hy5 : w.heap.size < w5.heap.size := cell_lt k5; have hz5 : w1.heap.size ≤ w5.heap.size := hb6.size; clear own5)
      | (refine step_pushAll (e := 3) (enc := encI) (xs := ms) (v := .slice a5 q c5) (base := w1.heap.size) rfl (.tmp 35) (.tmp 37) 29 rfl _ 8 Try.underlying29 info_int rfl (by omega) lenI oneI q hml.out ?e1 ?e3 (w5.heap.size + 1) (some ⟨w5.heap.size, 0, none⟩) 1 1 [x2] rfl ?e2 ?e4 (by omega) (by unfold maxLen; omega) (by first | omega | (simp; omega)) ?_; (case e1 => simp [Act.eval, Act.put]); (case e2 => simp [Act.eval, Act.put]); (case e4 => with_reducible refine row1' ?k1 _ ?k2; (case k1 => simp [go_sem]); (case k2 => first | omega | (simp; done) | (simp; omega))); (case e3 => first | exact own6.out.alloc _ | exact (own6.out.alloc _).drew | exact (own6.out.drew).alloc _); intro a7 c7 w7 own7 hb7 hg7; have hb8 := (show Below w1.heap.size w1 w7 from (by repeat (first | with_reducible exact Below.refl _ _ | with_reducible assumption | with_reducible refine up_drewN ?_ | with_reducible refine up_drew ?_ | (with_reducible refine up_alloc ?_ ?_; rotate_left; (first | omega | (simp <;> omega) | simp)) | (with_reducible refine up_set ?_ ?_; rotate_left; (first | omega | (simp <;> omega) | simp)) | (with_reducible refine Below.trans ?_ (Below.mono (by with_reducible assumption) ?_); rotate_left; (first | omega | (simp <;> omega) | simp))))); have k7 := cu_below hb8 k0 hz1; have k8 := cu_below hb8 k1 hz1; have hy7 : w.heap.size < w7.heap.size := cell_lt k7; have hr7 := hide (own_rowL own7); have hz7 : w1.heap.size ≤ w7.heap.size := hb8.size; clear own7 hb7 hg7)
      | (refine step_pushAll (e := 3) (enc := encI) (xs := ms) (v := .slice a5 q c5) (base := w1.heap.size) rfl (.tmp 35) (.tmp 37) 29 rfl _ 8 Try.underlying29 info_int rfl (by omega) lenI oneI q hml.out ?e1 ?e3 w5.heap.size (some ⟨w1.heap.size, 0, none⟩) 1 1 [x2] rfl ?e2 ?e4 (by omega) (by unfold maxLen; omega) (by first | omega | (simp; omega)) ?_; (case e1 => simp [Act.eval, Act.put]); (case e2 => simp [Act.eval, Act.put]); (case e4 => with_reducible refine row1' ?k1 _ ?k2; (case k1 => (repeat (with_reducible refine cu_drew ?_)); refine cu_below hb5 ?k3 ?k4; (case k3 => simp [go_sem]); (case k4 => simp)); (case k2 => first | exact Nat.le_refl _ | omega | (simp; done) | (simp; omega))); (case e3 => first | exact own6.out | exact own6.out.drew); intro a7 c7 w7 own7 hb7 hg7; have hb8 := (show Below w1.heap.size w1 w7 from (by repeat (first | with_reducible exact Below.refl _ _ | with_reducible assumption | with_reducible refine up_drewN ?_ | with_reducible refine up_drew ?_ | (with_reducible refine up_alloc ?_ ?_; rotate_left; (first | omega | (simp <;> omega) | simp)) | (with_reducible refine up_set ?_ ?_; rotate_left; (first | omega | (simp <;> omega) | simp)) | (with_reducible refine Below.trans ?_ (Below.mono (by with_reducible assumption) ?_); rotate_left; (first | omega | (simp <;> omega) | simp))))); have k7 := cu_below hb8 k0 hz1; have k8 := cu_below hb8 k1 hz1; have hy7 : w.heap.size < w7.heap.size := cell_lt k7; have hr7 := hide (own_rowL own7); have hz7 : w1.heap.size ≤ w7.heap.size := hb8.size; clear own7 hb7 hg7)
      | (go_simp; go_at_call 21; have hOf := hide (hG2.out w7 (hbw1.out.trans (hb8.mono (by omega))) a7 c7 hr7.out); refine hOf.out.mono ?_; rintro e w9 ⟨bv, m2, c2, er2, rfl, hb9, hgood2⟩; have hb10 := hide (hb8.trans (hb9.mono hz7)); replace hgood2 := hide hgood2; clear hOf hb9))
    all_goals
      go_wp2_with fail
      go_meet
      exact ⟨bv, m2, c2, er2, rfl, rfl, hb10, hgood2⟩
  case rest =>
    obtain ⟨bv, m2, c2, er2, rfl, rfl, hbc, hgood2⟩ := hcut
    obtain ⟨w2, hw2⟩ : ∃ w2, w2 = wc := ⟨_, rfl⟩
    simp only [← hw2] at hbc hgood2 ⊢
    clear hw2 wc
    have k0 := cu_below hbc.out k0 hz1
    have k1 := cu_below hbc.out k1 hz1
    have hz2 : w.heap.size < w2.heap.size := cell_lt k0
    have hbw2 := hide (hbw1.out.trans (hbc.out.mono (by omega)))
    have hgd1 := hide (fun (h : er1 = 0) => hGs.out _ _ _ _ _ (hgood1.out h) hbc.out)
    clear hgood1 hbc hbw1 hCl hG2
    go_wp2_with fail
    refine (hBg.out _).mono ?_
    rintro e w3 ⟨rfl, hb3⟩
    have k0 := cu_below hb3 k0 hz2
    have k1 := cu_below hb3 k1 hz2
    have hz3 : w.heap.size < w3.heap.size := cell_lt k0
    have hbw3 := hide (hbw2.out.trans (hb3.mono (by omega)))
    have hgd1 := hide (fun (h : er1 = 0) => hGs.out _ _ _ _ _ (hgd1.out h) hb3)
    have hgd2 := hide (fun (h : er2 = 0) => hGs.out _ _ _ _ _ (hgood2.out h) hb3)
    clear hb3 hbw2 hgood2 hGs
    by_cases h1 : er1 = 0
    · by_cases h2 : er2 = 0
      · have g1 := hgd1.out h1
        have g2 := hgd2.out h2
        rw [hG.out] at g1 g2
        obtain ⟨p1, p2, rfl, p4⟩ := g1
        obtain ⟨p5, p6, rfl, p8⟩ := g2
        obtain ⟨v1, v2, v3⟩ := mark_ok p1
        obtain ⟨v4, v5, v6⟩ := mark_ok p5
        obtain ⟨g3, g4⟩ := posErr_ok v1
        obtain ⟨n1, n2, n3, n4⟩ := netErr_ok g3
        obtain ⟨n, rfl⟩ := Int.eq_ofNat_of_zero_le (show 0 ≤ x0 by omega)
        have ht0 := (look_ok p2).2 x2 (by simp)
        obtain ⟨t, rfl⟩ := Int.eq_ofNat_of_zero_le ht0.1
        simp only [Int.toNat_natCast] at p4 p8 ⊢
        have ht : t < n := by omega
        by_cases h3 : lookErr (n : Int) es0 [x1] = 0
        · have hs0 := (look_ok h3).2 x1 (by simp)
          obtain ⟨s, rfl⟩ := Int.eq_ofNat_of_zero_le hs0.1
          have hs : s < n := by omega
          have hls := look_two h3 p2
          have hS1 := hide (fun (w' : World) (hb : Below w3.heap.size w3 w') => star_marks n s t a0 cap0 es0 av cv ms w' w'.heap.size (Nat.le_refl _) (((r0.out.below hbw3.out (Nat.le_refl _)).below hb (by omega)).mono (by have := hb.size; omega)) ((p4.below hb (Nat.le_refl _)).mono hb.size) hl hls p2 (pl_all v3))
          have hS2 := hide (fun (w' : World) (hb : Below w3.heap.size w3 w') => star_marks n s t a0 cap0 es0 bv c2 (ms ++ [(t : Int)]) w' w'.heap.size (Nat.le_refl _) (((r0.out.below hbw3.out (Nat.le_refl _)).below hb (by omega)).mono (by have := hb.size; omega)) ((p8.below hb (Nat.le_refl _)).mono hb.size) hl hls p2 (pl_all v6))
          have hDs := hide (fun (v : Nat) (hv : v < n) (w' : World) (hb : Below w3.heap.size w3 w') => ddist_ok n a0 cap0 es0 v w' w'.heap.size (Nat.le_refl _) (((r0.out.below hbw3.out (Nat.le_refl _)).below hb (by omega)).mono (by have := hb.size; omega)) hl (look_one v1 hv))
          have hge := hide (fun (v : Nat) (hv : v < n) => (show distF n es0 v t ≤ hAt (ofList n es0 (ms ++ [(t : Int)]) t n) v by
            unfold ofList
            rw [hAt_li, if_pos hv]
            exact bnd_ge (show n ≤ 64 by omega) n4 g4 hv ht))
          have hE := hide (hn_edges (n := n) n4 g4)
          have hdi := hide (fun (a v : Nat) (ha : a < n) (hv : v < n) => dst_in (show n ≤ 64 by omega) n4 g4 ha hv)
          have hn64 : n ≤ 64 := by omega
          unfold MRun at hS1 hS2
          have hLk2 := hide (fun (b : Nat) (w' : World) (hb : Below w.heap.size w w') (hP : Row encI 1 w' w'.heap.size (some ⟨b, 0, none⟩) [(s : Int)]) => by have := hLk.out b w' hb hP; rw [h3] at this; exact this)
          subst h1 h2
          have iss : (0 : Int) ≤ (s : Int) ∧ (s : Int) < (n : Int) := by omega
          have itt : (0 : Int) ≤ (t : Int) ∧ (t : Int) < (n : Int) := by omega
          clear hgd1 hgd2 hG hLk p1 p2 p4 p5 p6 p8 v1 v2 v3 v4 v5 v6 g3 g4 n1 n2 n3 n4 hls h3 hM0 hml hqm hzq hz r0
          go_wp2_with fail
          refine (hLk2.out _ _ (up_alloc hbw3.out (by omega)) (row1 (by simp [go_sem]))).mono ?_
          rintro e w4 ⟨rfl, hb4⟩
          have hb4' := hide (unalloc (hb4.mono (by simp)) (Nat.le_refl _) : Below w3.heap.size w3 w4)
          have k0 := cu_below hb4'.out k0 hz3
          have k1 := cu_below hb4'.out k1 hz3
          have hz4 : w.heap.size < w4.heap.size := cell_lt k0
          have hz34 : w3.heap.size ≤ w4.heap.size := hb4'.out.size
          clear hb4 hLk2
          go_wp2_with fail
          refine (hS1.out _ hb4'.out).mono ?_
          rintro e w5 ⟨cost1, e1, fa, m1, fc, fb, kk1, fd, rfl, hb5, hres1⟩
          have k0 := cu_below hb5 k0 hz4
          have k1 := cu_below hb5 k1 hz4
          have hb5' := hide (hb4'.out.trans (hb5.mono hz34))
          have hz5 : w.heap.size < w5.heap.size := cell_lt k0
          have hz35 : w3.heap.size ≤ w5.heap.size := hb5'.out.size
          have hres1 : (e1 = 5 ∧ cost1 = 0 ∧ distF n es0 s t = FAR) ∨ (e1 = 0 ∧ distF n es0 s t < FAR ∧ cost1 = distF n es0 s t) := by
            rcases hres1 with h | ⟨h1, h2, h3, _⟩
            · exact .inl h
            · exact .inr ⟨h1, h2, h3⟩
          replace hres1 := hide hres1
          clear hb5 hb4' hS1
          obtain ⟨w6, hw6⟩ : ∃ w6, w6 = w5.alloc (.cells #[.slice fa m1 fc, .int .i64 cost1, .slice fb kk1 fd] 47) := ⟨_, rfl⟩
          have hb56 : Below w5.heap.size w5 w6 := by rw [hw6]; exact (Below.refl _ _).alloc (Nat.le_refl _) _
          have f1 : w6.cell? ⟨w5.heap.size, 1, none⟩ = some (.int .i64 cost1) := by rw [hw6]; simp [go_sem]
          have k0 := cu_below hb56 k0 hz5
          have k1 := cu_below hb56 k1 hz5
          have hb6' := hide (hb5'.out.trans (hb56.mono hz35))
          have hz6 : w.heap.size < w6.heap.size := cell_lt k0
          have hf6 : w5.heap.size < w6.heap.size := cell_lt f1
          have hz36 : w3.heap.size ≤ w6.heap.size := hb6'.out.size
          clear hb56 hb5'
          go_wp2_with fail
          simp only [← hw6]
          replace hw6 := hide hw6
          refine (hS2.out _ hb6'.out).mono ?_
          rintro e w7 ⟨cost2, e2, ga, m2', gc, gb, kk2, gd, rfl, hb7, hres2⟩
          have k0 := cu_below hb7 k0 hz6
          have k1 := cu_below hb7 k1 hz6
          have f1 := cu_below hb7 f1 hf6
          have hb7' := hide (hb6'.out.trans (hb7.mono hz36))
          have hz7 : w.heap.size < w7.heap.size := cell_lt k0
          have hf7 : w5.heap.size < w7.heap.size := cell_lt f1
          have hz37 : w3.heap.size ≤ w7.heap.size := hb7'.out.size
          clear hb7 hb6' hS2
          rcases hres2 with ⟨rfl, rfl, hd⟩ | ⟨rfl, hd, hc2, ord, rfl, hkb, hor, hon⟩
          · obtain ⟨rfl, rfl⟩ : e1 = 5 ∧ cost1 = 0 := by
              rcases hres1.out with ⟨h1, h2, _⟩ | ⟨_, h2, _⟩
              · exact ⟨h1, h2⟩
              · omega
            have hfin := hide (show Below w.heap.size w w7 from hbw3.out.trans (hb7'.out.mono (by omega)))
            clear hres1 hd hDs hge hE hdi
            go_wp2
            go_ret
            exact ⟨rfl, up_alloc hfin.out (by omega)⟩
          · obtain ⟨rfl, hc1⟩ : e1 = 0 ∧ cost1 = distF n es0 s t := by
              rcases hres1.out with ⟨_, _, h2⟩ | ⟨h1, _, h2⟩
              · omega
              · exact ⟨h1, h2⟩
            obtain rfl : cost1 = cost2 := by rw [hc1, hc2]
            have hway := hide (fun (v : Nat) (hv : v ∈ ord) => on_way hE.out hs ht (hon v hv).1 (hge.out v (hon v hv).1) (hon v hv).2 hd)
            have hlt := hide (fun (v : Nat) (hv : v ∈ ord) => (hon v hv).1)
            replace hor := hide hor
            have hor2 := hide (fun (i : Nat) (hi : i < ord.length) => (show ∃ b o, gb = some ⟨b, o, none⟩ ∧ b < w7.heap.size ∧ w7.cell? ⟨b, o + i, none⟩ = some (.int .i64 ((ord[i] : Nat) : Int)) by
              obtain ⟨b, o, h1, h2, h3⟩ := hor.out.int i (by rw [lp_len]; exact hi)
              refine ⟨b, o, h1, h2, ?_⟩
              simpa [LP] using h3))
            clear hres1 hc1 hc2 hon hge hE hor
            obtain ⟨w8, hw8⟩ : ∃ w8, w8 = w7.alloc (.cells #[.slice ga m2' gc, .int .i64 cost1, .slice gb ord.length gd] 47) := ⟨_, rfl⟩
            have hb78 : Below w7.heap.size w7 w8 := by rw [hw8]; exact (Below.refl _ _).alloc (Nat.le_refl _) _
            have g1 : w8.cell? ⟨w7.heap.size, 1, none⟩ = some (.int .i64 cost1) := by rw [hw8]; simp [go_sem]
            have g2 : w8.cell? ⟨w7.heap.size, 2, none⟩ = some (.slice gb ord.length gd) := by rw [hw8]; simp [go_sem]
            have k0 := cu_below hb78 k0 hz7
            have k1 := cu_below hb78 k1 hz7
            have f1 := cu_below hb78 f1 hf7
            have hb8' := hide (hb7'.out.trans (hb78.mono hz37))
            have hz8 : w.heap.size < w8.heap.size := cell_lt k0
            have hf8 : w5.heap.size < w8.heap.size := cell_lt f1
            have hg8 : w7.heap.size < w8.heap.size := cell_lt g1
            have hz38 : w3.heap.size ≤ w8.heap.size := hb8'.out.size
            have hor3 := hide (fun (i : Nat) (hi : i < ord.length) => by
              obtain ⟨b, o, h1, h2, h3⟩ := hor2.out i hi
              exact (⟨b, o, h1, by omega, cu_below hb78 h3 h2⟩ : ∃ b o, gb = some ⟨b, o, none⟩ ∧ b < w8.heap.size ∧ w8.cell? ⟨b, o + i, none⟩ = some (.int .i64 ((ord[i] : Nat) : Int))))
            clear hb78 hb7' hor2
            go_wp2_with fail
            simp only [← hw8]
            replace hw8 := hide hw8
            refine (hDs.out s hs _ hb8'.out).mono ?_
            rintro e w9 ⟨al, cl, rfl, hrl, hb9⟩
            have k0 := cu_below hb9 k0 hz8
            have k1 := cu_below hb9 k1 hz8
            have g2 := cu_below hb9 g2 hg8
            have hb9' := hide (hb8'.out.trans (hb9.mono hz38))
            have hz9 : w.heap.size < w9.heap.size := cell_lt k0
            have hg9 : w7.heap.size < w9.heap.size := cell_lt g2
            have hz39 : w3.heap.size ≤ w9.heap.size := hb9'.out.size
            have hor4 := hide (fun (i : Nat) (hi : i < ord.length) => by
              obtain ⟨b, o, h1, h2, h3⟩ := hor3.out i hi
              exact (⟨b, o, h1, by have := hb9.size; omega, cu_below hb9 h3 h2⟩ : ∃ b o, gb = some ⟨b, o, none⟩ ∧ b < w9.heap.size ∧ w9.cell? ⟨b, o + i, none⟩ = some (.int .i64 ((ord[i] : Nat) : Int))))
            obtain ⟨bl, ol, rfl, hbl, lt0⟩ := hrl.atI t ht
            have hls := hide (fun (v : Nat) (hv : v < n) => (show w9.cell? ⟨bl, ol + v, none⟩ = some (.int .i64 (distF n es0 s v)) by
              obtain ⟨b, o, h1, _, h3⟩ := hrl.atI v hv
              simp only [Option.some.injEq, Addr.mk.injEq] at h1
              obtain ⟨rfl, rfl, -⟩ := h1
              exact h3))
            clear hb9 hrl hb8' hor3 f1 g1 lt0
            go_wp2
            go_loopw [104] (fun i wr => ∃ j : Nat, j ≤ ord.length ∧ i = .int .i64 (j : Int) ∧ Hid (Below w9.heap.size w9 wr)) (fun i _ => ord.length - (intOf i).toNat)
            case atStart => exact ⟨0, Nat.zero_le _, rfl, hide (Below.refl _ _)⟩
            case round =>
              obtain ⟨j, hj, rfl, hbr⟩ := hrel
              have hzr := hbr.out.size
              have k0 := cu_below hbr.out k0 hz9
              have k1 := cu_below hbr.out k1 hz9
              have hzw : w.heap.size < wr.heap.size := by omega
              by_cases hlt' : j < ord.length
              · obtain ⟨b, o, rfl, hb, c0⟩ := hor4.out j hlt'
                have c0 := cu_below hbr.out c0 hb
                have hm := List.getElem_mem hlt'
                have hv := hlt.out ord[j] hm
                have hsum := hway.out ord[j] hm
                obtain ⟨v, hve⟩ : ∃ v, v = ord[j] := ⟨_, rfl⟩
                rw [← hve] at c0 hv hsum
                replace hve := hide hve
                have hsum : distF n es0 s v + distF n es0 v t = distF n es0 s t := hsum
                have ij : (0 : Int) ≤ (j : Int) ∧ (j : Int) < (ord.length : Int) := by omega
                have ivv : (0 : Int) ≤ (v : Int) ∧ (v : Int) < (n : Int) := by omega
                have hbr' : b < wr.heap.size := by omega
                have d1 := hdi.out s v hs hv
                have d2 := hdi.out v t hv ht
                have d3 := hdi.out s t hs ht
                have hDv := hide (hDs.out v hv wr (hb9'.out.trans (hbr.out.mono hz39)))
                have l1 := hls.out v hv
                have l2 := hls.out t ht
                obtain ⟨x, hx⟩ : ∃ x, x = distF n es0 s v := ⟨_, rfl⟩
                obtain ⟨y, hy⟩ : ∃ y, y = distF n es0 v t := ⟨_, rfl⟩
                obtain ⟨z2, hz2'⟩ : ∃ z, z = distF n es0 s t := ⟨_, rfl⟩
                have hDy : Hid (∀ (w' : World) (a : Option Addr), Row encI 1 w' w'.heap.size a (LI n (distF n es0 v)) → ∃ b o, a = some ⟨b, o, none⟩ ∧ b < w'.heap.size ∧ w'.cell? ⟨b, o + t, none⟩ = some (.int .i64 y)) := hide (fun w' a h => by rw [hy]; exact h.atI t ht)
                rw [← hx] at l1 d1 hsum
                rw [← hy] at d2 hsum
                rw [← hz2'] at l2 d3 hsum
                replace hx := hide hx
                replace hy := hide hy
                replace hz2' := hide hz2'
                have hxy : 0 ≤ x ∧ x ≤ 1099511627776 ∧ 0 ≤ y ∧ y ≤ 1099511627776 := by unfold FAR at d1 d2; omega
                have hwr : IntKind.i64.wrap (x + y) = z2 := by rw [hsum]; exact IntWalk.i64_in _ (by unfold FAR at d3; omega)
                have hzq2 : (z2 != z2) = false := by simp
                replace hsum := hide hsum
                clear d1 d2 d3
                go_wp2_with fail
                refine (hDv.out).mono ?_
                rintro e wx ⟨am, cm, rfl, hrm, hbx⟩
                obtain ⟨bm, om, rfl, hbm, m1c⟩ := hDy.out _ _ hrm
                have l1 := cu_below hbx (cu_below hbr.out l1 hbl) (by simp; omega)
                have l2 := cu_below hbx (cu_below hbr.out l2 hbl) (by simp; omega)
                have hblx : bl < wx.heap.size := by have := hbx.size; omega
                have hbxx := hide (hbr.out.trans (hbx.mono hzr))
                have hbq := hide (fun (m : Nat) => hbxx.out.trans ((up_drewN (n := m) (Below.refl wx.heap.size wx) : Below wx.heap.size wx (wx.drewN m)).mono (by have := hbxx.out.size; omega)))
                clear hrm hbx c0 hDv hDy k0 k1
                go_wp2
                go_quiet (fail)
                go_wp2
                go_roundw
                case rel => exact ⟨j + 1, by omega, by go_num, hide (hbq.out nq)⟩
                case measure => simp [intOf]; omega
              · have hfin := hide (show Below w.heap.size w wr from hbw3.out.trans ((hb9'.out.trans (hbr.out.mono hz39)).mono (by omega)))
                obtain rfl : j = ord.length := by omega
                go_wp2
                go_ret
                exact ⟨rfl, hfin.out⟩
        · have q1 : (lookErr (n : Int) es0 [x1] != 0) = true := by simpa using h3
          obtain ⟨le, hle⟩ : ∃ l, l = lookErr (n : Int) es0 [x1] := ⟨_, rfl⟩
          rw [← hle] at hLk q1
          replace hle := hide hle
          subst h1 h2
          clear hgd1 hgd2 hG p1 p2 p4 p5 p6 p8 v1 v2 v3 v4 v5 v6 g3 g4 n1 n2 n3 n4 h3 hM0 hml hqm hzq hz r0
          go_wp2_with fail
          refine (hLk.out _ _ (up_alloc hbw3.out (by omega)) (row1 (by simp [go_sem]))).mono ?_
          rintro e w4 ⟨rfl, hb4⟩
          have hb4' := hide (unalloc (hb4.mono (by simp)) (Nat.le_refl _) : Below w3.heap.size w3 w4)
          have hb5 := hide (hbw3.out.trans (hb4'.out.mono (by omega)))
          have hz5 : w.heap.size ≤ w4.heap.size := hb5.out.size
          clear hb4
          go_wp2_with fail
          refine (hBg.out _).mono ?_
          rintro e w6 ⟨rfl, hb6⟩
          have hb6' := hide (hb5.out.trans (hb6.mono hz5))
          go_wp2
          go_ret
          exact ⟨rfl, hb6'.out⟩
      · have q0 : (er1 != 0) = false := by simpa using h1
        have q1 : (er2 != 0) = true := by simpa using h2
        clear hgd1 hgd2 h1 h2
        go_wp2_with fail
        refine (hBg.out _).mono ?_
        rintro e w6 ⟨rfl, hb6⟩
        have hb6' := hide (hbw3.out.trans (hb6.mono (by omega)))
        go_wp2
        go_ret
        exact ⟨rfl, hb6'.out⟩
    · have q1 : (er1 != 0) = true := by simpa using h1
      clear hgd1 hgd2 h1
      go_wp2_with fail
      refine (hBg.out _).mono ?_
      rintro e w6 ⟨rfl, hb6⟩
      have hb6' := hide (hbw3.out.trans (hb6.mono (by omega)))
      go_wp2
      go_ret
      exact ⟨rfl, hb6'.out⟩
end Go.Proofs.Ytcehdpeeaogpiaa
