/-
  What bell.Cycle returns. Conditions: that the slice reads.
-/
import Derived.Test.YtgkiipmeigfjnaaCycQ
import Derived.Test.YtgkiipmeigfjnaaJLift
import Derived.Deep.LoopGhost
namespace Go.Proofs.Ytgkiipmeigfjnaa
open Go.RowKit
set_option linter.unusedSimpArgs false
set_option linter.unusedVariables false
theorem own_first (w : World) (base : Nat) (e : TypeId) (x : Int) (hb : base ≤ w.heap.size) : Own encI 1 e (w.alloc (.cells #[.int .i64 x] e)) base (.slice (some ⟨w.heap.size, 0, none⟩) 1 1) [x] :=
  ⟨rfl, .inr ⟨w.heap.size, 1, #[.int .i64 x], rfl, hb, heap_alloc_new w _, Nat.le_refl _, by unfold maxLen; decide, rfl, rfl⟩⟩
/-- a walk, its cost and an error handed back -/
def WayBack (xs : List Int) (m : Nat) (cost err : Int) (w : World) (e : Ending) (w' : World) : Prop := ∃ a c, e = .returned (.tuple #[.agg #[.slice a m c, .int .i64 cost], .int .i64 err]) ∧ Row encI 1 w' w'.heap.size a xs ∧ Below w.heap.size w w'
theorem itb_lt {n : Nat} {p : Nat → Int} {x : Nat} (hx : x < n) (hp : ∀ y, 0 ≤ p y → p y < (n : Int)) (hok : Okb p n x) : ∀ k, k ≤ n → itb p k x < n := by
  intro k
  induction k with
  | zero => intro _; exact hx
  | succ k ih =>
    intro hk
    have h1 := hok k (by omega)
    have h2 := hp _ h1
    simp only [itb, pk]
    omega
/-- how slices.Reverse goes: the first and the last k changed over -/
def revK (xs : List Int) (k : Nat) : List Int := (List.range xs.length).map fun i => if i < k ∨ xs.length - 1 - k < i then xs.getD (xs.length - 1 - i) 0 else xs.getD i 0
theorem revK_len (xs : List Int) (k : Nat) : (revK xs k).length = xs.length := by simp [revK]
theorem revK_get (xs : List Int) (k i : Nat) (h : i < (revK xs k).length) : (revK xs k)[i] = if i < k ∨ xs.length - 1 - k < i then xs.getD (xs.length - 1 - i) 0 else xs.getD i 0 := by simp [revK]
theorem getD_is (xs : List Int) (i : Nat) (h : i < xs.length) : xs.getD i 0 = xs[i] := by simp [List.getD, List.getElem?_eq_getElem h]
theorem revK_zero (xs : List Int) : revK xs 0 = xs := by
  apply List.ext_getElem
  · exact revK_len _ _
  · intro i h1 h2
    rw [revK_get, if_neg (by omega), getD_is _ _ h2]
theorem revK_all (xs : List Int) (k : Nat) (h : xs.length ≤ 2 * k + 1) : revK xs k = xs.reverse := by
  apply List.ext_getElem
  · rw [revK_len, List.length_reverse]
  · intro i h1 h2
    rw [revK_len] at h1
    rw [revK_get, List.getElem_reverse]
    by_cases hc : i < k ∨ xs.length - 1 - k < i
    · rw [if_pos hc, getD_is _ _ (by omega)]
    · rw [if_neg hc, getD_is _ _ h1]
      congr 1
      omega
theorem revK_step (xs : List Int) (k : Nat) (h : 2 * k + 1 < xs.length) : ((revK xs k).set k (xs.getD (xs.length - 1 - k) 0)).set (xs.length - 1 - k) (xs.getD k 0) = revK xs (k + 1) := by
  apply List.ext_getElem
  · simp [revK_len]
  · intro i h1 h2
    rw [revK_len] at h2
    rw [revK_get]
    by_cases e1 : xs.length - 1 - k = i
    · subst e1
      rw [List.getElem_set_self, if_pos (by omega)]
      congr 1
      omega
    · rw [List.getElem_set_ne e1]
      by_cases e2 : k = i
      · subst e2
        rw [List.getElem_set_self, if_pos (by omega)]
      · rw [List.getElem_set_ne e2, revK_get]
        by_cases hc : i < k ∨ xs.length - 1 - k < i
        · rw [if_pos hc, if_pos (by omega)]
        · rw [if_neg hc, if_neg (by omega)]
set_option maxRecDepth 100000 in
set_option maxHeartbeats 2000000 in
theorem reverse_any (xs : List Int) (g n c base : Nat) (hn : xs.length = n) (w : World) (h : Own encI 1 3 w base (.slice (some ⟨g, 0, none⟩) n c) xs) (hm : n ≤ 1000) :
    Calls Try.prog 76 #[.slice (some ⟨g, 0, none⟩) n c] w fun e w' => e = .returned (.tuple #[]) ∧ Own encI 1 3 w' base (.slice (some ⟨g, 0, none⟩) n c) xs.reverse ∧ Keep (fun j => j = g) w w' := by
  subst hn
  have h0 := hide (show Own encI 1 3 w base (.slice (some ⟨g, 0, none⟩) xs.length c) (revK xs 0) by rw [revK_zero]; exact h)
  clear h
  go_enter Try.func76, Try.ntmps76
  go_wp2
  go_loopw [2, 3] (fun s2 s3 wr => ∃ k : Nat, k ≤ xs.length ∧ s2 = .int .i64 k ∧ s3 = .int .i64 ((xs.length : Int) - 1 - k) ∧ Hid (Own encI 1 3 wr base (.slice (some ⟨g, 0, none⟩) xs.length c) (revK xs k)) ∧ Hid (Keep (fun j => j = g) w wr)) (fun s2 _ _ => xs.length - (intOf s2).toNat)
  case atStart => exact ⟨0, Nat.zero_le _, rfl, by simp, h0, hide (Keep.refl _ _)⟩
  case round =>
    obtain ⟨k, hk, rfl, rfl, own, hK⟩ := hrel
    have hgl := own.out.at_base.2
    have fr := own.out.free
    by_cases hlt : 2 * k + 1 < xs.length
    · obtain ⟨q, hq⟩ : ∃ q, q = xs.length - 1 - k := ⟨_, rfl⟩
      have hqi : (xs.length : Int) - 1 - (k : Int) = (q : Int) := by omega
      have d1 := own.out.getI k (by rw [revK_len]; omega)
      have d2 := own.out.getI q (by rw [revK_len]; omega)
      rw [revK_get, if_neg (by omega)] at d1 d2
      have hst := hide (revK_step xs k hlt)
      rw [← hq] at hst
      obtain ⟨y1, hy1⟩ : ∃ y, y = xs.getD k 0 := ⟨_, rfl⟩
      obtain ⟨y2, hy2⟩ : ∃ y, y = xs.getD q 0 := ⟨_, rfl⟩
      rw [← hy1] at d1 hst
      rw [← hy2] at d2 hst
      have hset := hide (fun w' (hw : Own encI 1 3 w' base (.slice (some ⟨g, 0, none⟩) xs.length c) (((revK xs k).set k y2).set q y1)) => by rw [hst.out] at hw; exact hw)
      have ho := hide ((own.out.putI k (by rw [revK_len]; omega) y2).putI q (by rw [List.length_set, revK_len]; omega) y1)
      have hkk := hide (((hK.out.setCell (p := ⟨g, k, none⟩) (.inl rfl) (.int .i64 y2)).setCell (p := ⟨g, q, none⟩) (.inl rfl) (.int .i64 y1)))
      have hq1 : k < q := by omega
      have hq2 : q < xs.length := by omega
      have ik : (0 : Int) ≤ (k : Int) ∧ (k : Int) < (xs.length : Int) := by omega
      have iq : (0 : Int) ≤ (q : Int) ∧ (q : Int) < (xs.length : Int) := by omega
      rw [hqi]
      have hnx := hide (show (q : Int) - 1 = (xs.length : Int) - 1 - ((k + 1 : Nat) : Int) by omega)
      replace hq := hide hq
      replace hy1 := hide hy1
      replace hy2 := hide hy2
      replace hqi := hide hqi
      go_wp2
      go_region
      all_goals
        go_wp2
        go_roundw
        case rel => exact ⟨k + 1, by omega, by go_num, by rw [← hnx.out], hide (hset.out _ ho.out.drew), hide hkk.out.drew⟩
        case measure => simp [intOf]; omega
    · have o2 := own.out
      rw [revK_all xs k (by omega)] at o2
      replace o2 := hide o2
      have hcmp : ¬ (k : Int) < (xs.length : Int) - 1 - (k : Int) := by omega
      obtain ⟨z, hz⟩ : ∃ z, z = (xs.length : Int) - 1 - (k : Int) := ⟨_, rfl⟩
      rw [← hz] at hcmp ⊢
      replace hz := hide hz
      go_wp2
      go_end0
      exact ⟨rfl, o2.out, hK.out⟩
set_option maxRecDepth 100000 in
set_option maxHeartbeats 1000000 in
theorem cycle_bad (N : Int) (a : Option Addr) (cap : Nat) (es : List Ed) (w : World) (B : Nat) (hB : B ≤ w.heap.size) (hE : Row encE 3 w B a es) (hl : es.length ≤ 9223372036854775807) (h0 : netErr N es ≠ 0) :
    Calls Try.prog 21 #[.agg #[.int .i64 N, .slice a es.length cap]] w fun e w' => e = .returned (.tuple #[.slice none 0 0, .int .i64 (netErr N es)]) ∧ Below w.heap.size w w' := by
  have q0 : (netErr N es != 0) = true := by simp [h0]
  replace hE := hide hE
  clear h0
  go_enter Try.func21, Try.ntmps21
  go_wp2_with fail
  refine (check_any N a cap es _ B (by simp <;> omega) (hE.out.below ((by repeat (first | with_reducible exact Below.refl _ _ | with_reducible assumption | with_reducible refine up_drewN ?_ | with_reducible refine up_drew ?_ | (with_reducible refine up_alloc ?_ ?_; rotate_left; (first | omega | (simp <;> omega) | simp)) | (with_reducible refine up_set ?_ ?_; rotate_left; (first | omega | (simp <;> omega) | simp)) | (with_reducible refine Below.trans ?_ (Below.mono (by with_reducible assumption) ?_); rotate_left; (first | omega | (simp <;> omega) | simp)))) : Below w.heap.size w _) hB) hl).mono ?_
  rintro e w1 ⟨rfl, hb1⟩
  go_wp2
  go_ret2
  exact ⟨rfl, (by repeat (first | with_reducible exact Below.refl _ _ | with_reducible assumption | with_reducible refine up_drewN ?_ | with_reducible refine up_drew ?_ | (with_reducible refine up_alloc ?_ ?_; rotate_left; (first | omega | (simp <;> omega) | simp)) | (with_reducible refine up_set ?_ ?_; rotate_left; (first | omega | (simp <;> omega) | simp)) | (with_reducible refine Below.trans ?_ (Below.mono (by with_reducible assumption) ?_); rotate_left; (first | omega | (simp <;> omega) | simp))))⟩
def CycPost (n : Nat) (es : List Ed) (w : World) (e : Ending) (w' : World) : Prop :=
  ((brelax (nes es) n ⟨fun _ => 0, fun _ => -1, -1⟩).last < 0 ∧ e = .returned (.tuple #[.slice none 0 0, .int .i64 5]) ∧ Below w.heap.size w w') ∨
  (∃ p v K a c, 0 ≤ (brelax (nes es) n ⟨fun _ => 0, fun _ => -1, -1⟩).last ∧ K ≤ c ∧ Found n es p v K ∧ e = .returned (.tuple #[.slice a K c, .int .i64 0]) ∧ Row encI 1 w' w'.heap.size a (cycL p K v).reverse ∧ Below w.heap.size w w')
set_option maxRecDepth 100000 in
set_option maxHeartbeats 4000000 in
theorem cycle_ok (n : Nat) (a : Option Addr) (cap : Nat) (es : List Ed) (w : World) (B : Nat) (hB : B ≤ w.heap.size) (hE : Row encE 3 w B a es) (hl : es.length ≤ 9223372036854775807) (h0 : netErr (n : Int) es = 0) :
    Calls Try.prog 21 #[.agg #[.int .i64 (n : Int), .slice a es.length cap]] w (CycPost n es w) := by
  obtain ⟨n1, n2, n3, n4⟩ := netErr_ok h0
  have hes : Right n es := n4
  have hC := hide (show ∀ w B, _ from fun w B hB hE => by have := check_any (n : Int) a cap es w B hB hE hl; rwa [h0] at this)
  have hcyc := hide (fun hl => cycle_found h0 (by omega) (by omega) hes hl)
  have hmk := fun w => run_zeros w n (by omega)
  replace hE := hide hE
  replace hes := hide hes
  clear h0 n4
  go_enter Try.func21, Try.ntmps21
  go_wp2_with fail
  refine (hC.out _ B (by simp <;> omega) (hE.out.below ((by repeat (first | with_reducible exact Below.refl _ _ | with_reducible assumption | with_reducible refine up_drewN ?_ | with_reducible refine up_drew ?_ | (with_reducible refine up_alloc ?_ ?_; rotate_left; (first | omega | (simp <;> omega) | simp)) | (with_reducible refine up_set ?_ ?_; rotate_left; (first | omega | (simp <;> omega) | simp)) | (with_reducible refine Below.trans ?_ (Below.mono (by with_reducible assumption) ?_); rotate_left; (first | omega | (simp <;> omega) | simp)))) : Below w.heap.size w _) hB)).mono ?_
  rintro e w0 ⟨rfl, hb1⟩
  have c0 : w0.cell? ⟨w.heap.size, 0, none⟩ = some (.int .i64 (n : Int)) := cu_below hb1 (by simp [go_sem]) (by simp)
  have c1 : w0.cell? ⟨w.heap.size, 1, none⟩ = some (.slice a es.length cap) := cu_below hb1 (by simp [go_sem]) (by simp)
  have hB0 : Below w.heap.size w w0 := (by repeat (first | with_reducible exact Below.refl _ _ | with_reducible assumption | with_reducible refine up_drewN ?_ | with_reducible refine up_drew ?_ | (with_reducible refine up_alloc ?_ ?_; rotate_left; (first | omega | (simp <;> omega) | simp)) | (with_reducible refine up_set ?_ ?_; rotate_left; (first | omega | (simp <;> omega) | simp)) | (with_reducible refine Below.trans ?_ (Below.mono (by with_reducible assumption) ?_); rotate_left; (first | omega | (simp <;> omega) | simp))))
  have key := hide (show ∀ w', Below w0.heap.size w0 w' → (Below w0.heap.size w0 w' ∧ w'.cell? ⟨w.heap.size, 0, none⟩ = some (.int .i64 (n : Int)) ∧ w'.cell? ⟨w.heap.size, 1, none⟩ = some (.slice a es.length cap)) from
    fun w' hb => ⟨hb, (hb.cell (cell_lt c0)).trans c0, (hb.cell (cell_lt c1)).trans c1⟩)
  have hE0 := hide (hE.out.below hB0 hB)
  have hB1 := hide (Nat.le_trans hB hB0.size)
  have hzw : w.heap.size < w0.heap.size := cell_lt c0
  replace hB0 := hide hB0
  clear hb1 hC
  go_wp2
  clear c0 c1
  obtain ⟨s, hs⟩ : ∃ s, s = brelax (nes es) n ⟨fun _ => 0, fun _ => -1, -1⟩ := ⟨_, rfl⟩
  have hs' := hide hs
  go_region_held3 (fun w' => Below w0.heap.size w0 w' ∧ w'.cell? ⟨w.heap.size, 0, none⟩ = some (.int .i64 (n : Int)) ∧ w'.cell? ⟨w.heap.size, 1, none⟩ = some (.slice a es.length cap))
    (first | exact key.out _ (below_drew _) | exact key.out _ (by assumption) | exact key.out _ (up_alloc_self (below_drew _)) | exact key.out _ (up_alloc_self (And.left (by assumption))) | exact key.out _ (up_alloc_self (by assumption)))
    (first | (go_at_call 75; have hb4 := (‹_ ∧ _› : _ ∧ _).1; refine (relax_any n a cap es _ _ _ (fun _ => 0) _ B (Nat.le_trans hB1.out hb4.size) (hE0.out.below hb4 hB1.out) (by omega) (by omega) n3 hes.out (own_zeros _ _ n (Nat.le_refl _) (by omega)) (Nat.le_trans hB1.out (by simp)) (low_zero.mono (by omega))).mono ?_; rintro e w4 ⟨pv, rfl, hp4, hd4, hk4⟩; have hb6 : Below w0.heap.size w0 w4 := hb4.trans (hk4.toBelow (fun j hj => by subst hj; simp) (by simp))))
  all_goals
    rw [← hs] at hp4 hd4 ⊢
    have hbb := hide hb6
    obtain ⟨pa, pc, rfl⟩ := hp4.shape (n := n) (li_len _ _)
    obtain ⟨gp, rfl, hgp1, hgp2⟩ := hp4.blockI (by omega)
    have hk0 := (key.out _ hb6).2.1
    have hk1 := (key.out _ hb6).2.2
    have hz4 := hb6.size
    clear hd4 hk4 hb6 key hmk
    rcases Int.lt_or_le s.last 0 with hneg | hpos
    · have hneg2 := hide hneg
      replace hp4 := hide hp4
      replace hs := hide hs
      go_wp2
      go_ret2
      exact .inl ⟨by rw [← hs.out]; exact hneg2.out, rfl, hB0.out.trans (hbb.out.mono hB0.out.size)⟩
    · have hpos2 := hide (show 0 ≤ (brelax (nes es) n ⟨fun _ => 0, fun _ => -1, -1⟩).last by rw [← hs]; exact hpos)
      have hcy := hcyc.out hpos2.out
      rw [← hs] at hcy
      obtain ⟨hx0, hok0, hpr, K, hF⟩ := hcy
      obtain ⟨x, hx⟩ := Int.eq_ofNat_of_zero_le hpos
      rw [hx] at hx0 hok0 hF ⊢
      simp only [Int.toNat_natCast] at hx0 hok0 hF
      obtain ⟨p, hp⟩ : ∃ p, p = s.p := ⟨_, rfl⟩
      rw [← hp] at hp4 hok0 hpr hF
      have hlt0 := itb_lt hx0 hpr hok0
      have hcell0 := hide (show ∀ j, j < n → w4.cell? ⟨gp, itb p j x, none⟩ = some (.int .i64 ((itb p (j + 1) x : Nat) : Int)) from fun j hj => by
        have h1 := hp4.atI (itb p j x) (hlt0 j (by omega))
        have h2 := hok0 j hj
        rw [h1]
        simp only [itb, pk]
        congr 2
        omega)
      replace hlt0 := hide hlt0
      obtain ⟨v, hv⟩ : ∃ v, v = itb p n x := ⟨_, rfl⟩
      have hvn := hide hv
      rw [← hv] at hF
      have hcell := hide (show ∀ j, w4.cell? ⟨gp, itb p j v, none⟩ = some (.int .i64 ((itb p (j + 1) v : Nat) : Int)) from fun j => by
        have h1 := hp4.atI (itb p j v) (hF.lt j)
        have h2 := hF.ok j
        rw [h1]
        simp only [itb, pk]
        congr 2
        omega)
      have hKn := hF.le
      have hK0 := hF.pos
      have hfst := hide hF.first
      have hbk := hide hF.back
      have hvl := hide hF.lt
      replace hF := hide hF
      replace hp4 := hide hp4
      replace hs := hide hs
      replace hx := hide hx
      replace hp := hide hp
      clear hok0 hpr hcyc hv hpos
      go_wp2
      go_loopw [6, 26] (fun s6 i wr => ∃ j : Nat, j ≤ n ∧ i = .int .i64 j ∧ s6 = .int .i64 ((itb p j x : Nat) : Int) ∧ wr = w4) (fun _ i _ => n - (intOf i).toNat)
      case atStart => exact ⟨0, Nat.zero_le _, rfl, rfl, rfl⟩
      case round =>
        obtain ⟨j, hj, rfl, rfl, rfl⟩ := hrel
        by_cases hjl : j < n
        · have d1 := hcell0.out j hjl
          have d2 := hlt0.out j (by omega)
          have hnx := hide (show ((itb p (j + 1) x : Nat) : Int) = ((itb p (j + 1) x : Nat) : Int) from rfl)
          obtain ⟨y, hy⟩ : ∃ y, y = itb p j x := ⟨_, rfl⟩
          rw [← hy] at d1 d2 ⊢
          replace hy := hide hy
          have iy : (0 : Int) ≤ (y : Int) ∧ (y : Int) < (n : Int) := by omega
          go_wp2
          go_roundw
          case rel => exact ⟨j + 1, by omega, by go_num, rfl, by first | rfl | trivial⟩
          case measure => simp [intOf]; omega
        · obtain rfl : j = n := by omega
          rw [← hvn.out]
          have d1 := hcell.out 0
          have d2 := hvl.out 0
          simp only [itb] at d1 d2
          have iy : (0 : Int) ≤ (v : Int) ∧ (v : Int) < (j : Int) := by omega
          have own1 := hide (own_first wr wr.heap.size 3 (v : Int) (Nat.le_refl _))
          obtain ⟨w5, hw5⟩ : ∃ w5, w5 = wr.alloc (.cells #[.int .i64 (v : Int)] 3) := ⟨_, rfl⟩
          have hb45 := hide (show Below wr.heap.size wr w5 by rw [hw5]; exact (Below.refl _ _).alloc (Nat.le_refl _) _)
          rw [← hw5] at own1
          replace hw5 := hide hw5
          go_wp2
          simp only [← hw5.out]
          clear d1 d2
          obtain ⟨wo, rfl⟩ : ∃ wo : World, wo = wr := ⟨_, rfl⟩
          go_loopg [7, 8] (K - 1) (fun gk s7 s8 wr => ∃ (m : Nat) (av : Option Addr) (cv : Nat), s7 = .slice av m cv ∧ s8 = .int .i64 ((itb p m v : Nat) : Int) ∧ 1 ≤ m ∧ m + gk = K ∧ Hid (Own encI 1 3 wr wo.heap.size (.slice av m cv) (cycL p m v)) ∧ Hid (Below wo.heap.size wo wr))
          case atStart => exact ⟨1, _, 1, rfl, by simp [itb], Nat.le_refl _, by omega, own1, hb45⟩
          case round =>
            clear own1 hb45
            obtain ⟨m, av, cv, rfl, rfl, hm1, hmk, own, hb⟩ := hrel
            have hzr := hb.out.size
            rcases gk with _ | q
            · obtain rfl : m = K := by omega
              have e1 : itb p m v = v := hbk.out
              rw [e1]
              have q1 : ((v : Int) != (v : Int)) = false := by simp
              obtain ⟨g, rfl, hg1, hg2⟩ := own.out.blockI (by omega)
              have hR := hide (reverse_any (cycL p m v) g m cv wo.heap.size (cycL_len _ _ _) wr own.out (by omega))
              replace e1 := hide e1
              go_wp2_with fail
              refine hR.out.mono ?_
              rintro e w6 ⟨rfl, own6, hk6⟩
              have hr6 : Row encI 1 w6 w6.heap.size (some ⟨g, 0, none⟩) (cycL p m v).reverse ∧ m ≤ cv := by
                obtain ⟨a', c', hv', hr', hle, _⟩ := own6.row lenI
                injection hv' with g1 g2 g3
                subst g1 g3
                rw [← g2] at hle
                exact ⟨hr', hle⟩
              have hb6 := hide (hB0.out.trans ((hbb.out.trans ((hb.out.trans (hk6.toBelow (fun j hj => by omega) hzr)).mono hz4)).mono hB0.out.size))
              replace hr6 := hide hr6
              replace own6 := hide own6
              replace hk6 := hide hk6
              go_wp2
              go_ret2
              exact .inr ⟨p, v, m, _, _, hpos2.out, hr6.out.2, hF.out, rfl, hr6.out.1, hb6.out⟩
            · have q1 : (((itb p m v : Nat) : Int) != (v : Int)) = true := by
                have := hfst.out m (by omega) (by omega)
                simp only [bne_iff_ne, ne_eq]
                omega
              have d1 := hcell.out m
              have d2 := hvl.out m
              have hsu := hide (cycL_succ p m v)
              obtain ⟨y, hy⟩ : ∃ y, y = itb p m v := ⟨_, rfl⟩
              rw [← hy] at q1 d1 d2 hsu ⊢
              replace hy := hide hy
              have iy : (0 : Int) ≤ (y : Int) ∧ (y : Int) < (j : Int) := by omega
              have hmk2 : m + 1 ≤ 64 := by omega
              go_wp2_with (at_builtin; (refine wpList_push (e := 3) (enc := encI) (xs := cycL p m v) (v := .slice av (m) cv) (base := wo.heap.size) rfl (.tmp 46) (.tmp 48) 34 rfl _ 8 Try.underlying34 info_int rfl ?d11 lenI oneI (m) ?d21 ?d31 ?d41 ⟨wr.heap.size, 0, none⟩ 1 (y : Int) ?d51 ?d61 ?d71 ?d81 ?d91 ?_); (case d11 => omega); (case d21 => exact cycL_len _ _ _); (case d31 => rfl); (case d41 => exact (own.out.alloc _)); (case d51 => rfl); (case d61 => exact newI _ _ _ _ rfl); (case d71 => omega); (case d81 => unfold maxLen; omega); (case d91 => first | omega | (simp; done) | (simp; omega)); intro g1 c1 w1 own1 hb1 hgr1 hg1 hgl1; have hB1 := unalloc hb1 (by omega); have d3 := cu_below (hb.out.trans hB1) d1 (by simp; omega); have d4 : gp < w1.heap.size := (by have := hB1.size; omega); replace hB1 := hide hB1; replace own1 := hide own1; replace hb1 := hide hb1; replace hgr1 := hide hgr1)
              go_roundg q
              case measure => omega
              case rel => exact ⟨m + 1, _, _, rfl, rfl, by omega, by omega, hide (by rw [hsu.out]; exact own1.out), hide (hb.out.trans hB1.out)⟩
end Go.Proofs.Ytgkiipmeigfjnaa
