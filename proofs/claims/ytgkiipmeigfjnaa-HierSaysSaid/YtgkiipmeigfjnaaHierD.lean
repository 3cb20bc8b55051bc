/-
  Which cells have a move to another square: what hier.doors and hier.Doors return. Conditions: as each theorem says.
-/
import Derived.Test.YtgkiipmeigfjnaaHierW
import Derived.Test.YtgkiipmeigfjnaaMat2
import Derived.Test.YtgkiipmeigfjnaaMk
import Derived.Test.YtgkiipmeigfjnaaLI
namespace Go.Proofs.Ytgkiipmeigfjnaa
open Go.RowKit
set_option linter.unusedSimpArgs false
set_option linter.unusedVariables false
/-- is it an end of one of the edges? -/
def isEnd (v : Nat) (e : Ed) : Bool := decide (e.u = (v : Int)) || decide (e.v = (v : Int))
def dr (es : List Ed) (v : Nat) : Bool := es.any (isEnd v)
theorem dr_take {es : List Ed} {j u v : Nat} (h : j < es.length) (hu : es[j].u = (u : Int)) (hv : es[j].v = (v : Int)) : dr (es.take (j + 1)) = upz (upz (dr (es.take j)) u true) v true := by
  funext x
  unfold dr
  rw [List.take_succ_eq_append_getElem h, List.any_append]
  have h1 : isEnd x es[j] = (decide (u = x) || decide (v = x)) := by
    unfold isEnd
    rw [hu, hv]
    congr 1 <;> (apply decide_eq_decide.2; omega)
  simp only [List.any_cons, List.any_nil, Bool.or_false, h1]
  by_cases hx : x = v
  · subst hx; rw [upz_same]; simp
  · rw [upz_other _ _ hx]
    by_cases hx2 : x = u
    · subst hx2; rw [upz_same]; simp
    · rw [upz_other _ _ hx2]
      have a1 : ¬ u = x := fun e => hx2 e.symm
      have a2 : ¬ v = x := fun e => hx e.symm
      simp [a1, a2]
theorem dr_nil : dr [] = fun _ => false := by funext v; rfl
theorem Own.atB {e : TypeId} {w : World} {base g n c : Nat} {f : Nat → Bool} (h : Own encB 1 e w base (.slice (some ⟨g, 0, none⟩) n c) (RW n f)) (i : Nat) (hi : i < n) : w.cell? ⟨g, i, none⟩ = some (.bool (f i)) := by
  have := h.getB i (by rw [rw_len]; exact hi)
  rwa [rw_get] at this
theorem Own.setB {e : TypeId} {w : World} {base g n c : Nat} {f : Nat → Bool} (h : Own encB 1 e w base (.slice (some ⟨g, 0, none⟩) n c) (RW n f)) (i : Nat) (hi : i < n) (x : Bool) : Own encB 1 e (w.setCell ⟨g, i, none⟩ (.bool x)) base (.slice (some ⟨g, 0, none⟩) n c) (RW n (upz f i x)) := by
  have := h.putB i (by rw [rw_len]; exact hi) x
  rwa [rw_set] at this
set_option maxRecDepth 100000 in
set_option maxHeartbeats 2000000 in
theorem doors_any (n : Nat) (a : Option Addr) (cap m : Nat) (es : List Ed) (hm : es.length = m) (w : World) (B : Nat) (hB : B ≤ w.heap.size) (hE : Row encE 3 w B a es) (hn1 : 1 ≤ n) (hn : n ≤ 64) (hin : ∀ e ∈ es, 0 ≤ e.u ∧ e.u < (n : Int) ∧ 0 ≤ e.v ∧ e.v < (n : Int)) (hel : m ≤ 512) :
    Calls Try.prog 84 #[.agg #[.int .i64 (n : Int), .slice a m cap]] w fun e w' => ∃ g, e = .returned (.slice (some ⟨g, 0, none⟩) n n) ∧ Own encB 1 4 w' w.heap.size (.slice (some ⟨g, 0, none⟩) n n) (RW n (dr es)) ∧ Below w.heap.size w w' := by
  subst hm
  replace hE := hide hE
  replace hin := hide hin
  go_enter Try.func84, Try.ntmps84
  go_wp2_with (at_make; (refine wpList_mk (e := 4) (enc := encB) rfl (.tmp 7) 109 rfl (.bool false) 1 false Try.underlying109 info_bool rfl rfl (n) ?e11 ?e21 ?e31 (w.heap.size) ?e41 ?_); (case e11 => rfl); (case e21 => omega); (case e31 => unfold maxLen; omega); (case e41 => first | omega | (simp; done) | (simp; omega)); intro w1 own1 hb1 hsz1; have k1 := cu_below hb1 (show (w.alloc (.cells #[.int .i64 (n : Int), .slice a es.length cap] 24)).cell? ⟨w.heap.size, 1, none⟩ = some (.slice a es.length cap) by simp [go_sem]) (by simp); have hz1 : w.heap.size < w1.heap.size := (cell_lt k1); replace own1 := hide own1; replace hb1 := hide hb1)
  have own2 : Hid (Own encB 1 4 w1 w.heap.size (.slice (some ⟨w.heap.size + 1, 0, none⟩) n n) (RW n (dr (es.take 0)))) := by
    have h := own1.out
    simp only [World.size_alloc] at h
    rw [List.take_zero, dr_nil, ← rw_rep]
    exact hide h
  have hbw1 : Below (w.heap.size + 1) (w.alloc (.cells #[.int .i64 (n : Int), .slice a es.length cap] 24)) w1 := by
    have h := hb1.out
    simp only [World.size_alloc] at h
    exact h
  have hB1 := hide (unalloc (hbw1.mono (by omega)) (Nat.le_refl _) : Below w.heap.size w w1)
  clear own1 hb1 hbw1 hsz1
  go_loopw [5, 12] (fun _ i wr => ∃ j : Nat, j ≤ es.length ∧ i = .int .i64 j ∧ Hid (Own encB 1 4 wr w.heap.size (.slice (some ⟨w.heap.size + 1, 0, none⟩) n n) (RW n (dr (es.take j)))) ∧ Hid (Below w.heap.size w wr)) (fun _ i _ => es.length - (intOf i).toNat)
  case atStart => exact ⟨0, Nat.zero_le _, rfl, own2, hB1⟩
  case round =>
    clear own2 hB1 k1 hz1
    obtain ⟨j, hj, rfl, own, hb⟩ := hrel
    have hgs := own.out.at_base.2
    by_cases hlt : j < es.length
    · obtain ⟨eb, eo, rfl, heb, q0, q1, q2⟩ := hE.out.ed j hlt
      have q0 := cu_below hb.out q0 (by simp; omega)
      have q1 := cu_below hb.out q1 (by simp; omega)
      have q2 := cu_below hb.out q2 (by simp; omega)
      have hzr := hb.out.size
      have hebx : eb < wr.heap.size := by omega
      obtain ⟨h1, h2, h3, h4⟩ := hin.out es[j] (List.getElem_mem hlt)
      obtain ⟨u, hu⟩ := Int.eq_ofNat_of_zero_le h1
      obtain ⟨v, hv⟩ := Int.eq_ofNat_of_zero_le h3
      have hun : u < n := by omega
      have hvn : v < n := by omega
      have htk := hide (dr_take hlt hu hv)
      rw [hu] at q0
      rw [hv] at q1
      obtain ⟨ec, hec⟩ : ∃ ec, ec = es[j].c := ⟨_, rfl⟩
      rw [← hec] at q2
      replace hec := hide hec
      replace hu := hide hu
      replace hv := hide hv
      have d1 := own.out.atB u hun
      have d2 := own.out.atB v hvn
      have fr := own.out.free
      have iu : (0 : Int) ≤ (u : Int) ∧ (u : Int) < (n : Int) := by omega
      have iv : (0 : Int) ≤ (v : Int) ∧ (v : Int) < (n : Int) := by omega
      have ij : (0 : Int) ≤ (j : Int) ∧ (j : Int) < (es.length : Int) := by omega
      clear h1 h2 h3 h4
      have hdone := hide (show ∀ w', w' = ((((wr.setCell ⟨w.heap.size + 1, u, none⟩ (.bool true)).setCell ⟨w.heap.size + 1, v, none⟩ (.bool true)).alloc (.cells #[.int .i64 (u : Int), .int .i64 (v : Int), .int .i64 ec] 26)).drew) → Own encB 1 4 w' w.heap.size (.slice (some ⟨w.heap.size + 1, 0, none⟩) n n) (RW n (dr (es.take (j + 1)))) ∧ Below w.heap.size w w' from by
        rintro w' rfl
        rw [htk.out]
        exact ⟨(((own.out.setB u hun true).setB v hvn true).alloc _).drew, up_drew (up_alloc ((hb.out.setCell (by simp) _).setCell (by simp) _) (by simp; omega))⟩)
      by_cases huv : u = v
      · subst huv
        go_wp2
        go_region
        all_goals
          go_wp2
          go_roundw
          case rel => exact ⟨j + 1, by omega, by go_num, hide (hdone.out _ rfl).1, hide (hdone.out _ rfl).2⟩
          case measure => simp [intOf]; omega
      · go_wp2
        go_region
        all_goals
          go_wp2
          go_roundw
          case rel => exact ⟨j + 1, by omega, by go_num, hide (hdone.out _ rfl).1, hide (hdone.out _ rfl).2⟩
          case measure => simp [intOf]; omega
    · obtain rfl : j = es.length := by omega
      have o2 := own.out
      rw [List.take_length] at o2
      replace o2 := hide o2
      go_wp2
      go_ret
      exact ⟨_, rfl, o2.out, hb.out⟩
/-- does an edge lead from or to v, between squares? -/
def dq (W k : Int) (v : Nat) (e : Ed) : Bool := isEnd v e && !sameSq W k e
theorem dr_bet (W k : Int) (es : List Ed) (v : Nat) : dr (betE W k es) v = es.any (dq W k v) := by
  unfold dr betE
  rw [List.any_filter]
  congr 1
  funext e
  unfold dq
  rw [Bool.and_comm]
/-- the doors, in order -/
def doorL (f : Nat → Bool) (k : Nat) : List Int := ((List.range k).filter f).map fun (v : Nat) => (v : Int)
theorem doorL_succ (f : Nat → Bool) (k : Nat) : doorL f (k + 1) = if f k = true then doorL f k ++ [(k : Int)] else doorL f k := by
  unfold doorL
  rw [List.range_succ, List.filter_append, List.map_append]
  by_cases h : f k = true
  · rw [if_pos h, List.filter_cons, if_pos h]; rfl
  · rw [if_neg h, List.filter_cons, if_neg h]; simp
theorem doorL_len (f : Nat → Bool) (k : Nat) : (doorL f k).length ≤ k := by
  unfold doorL
  rw [List.length_map]
  have := List.length_filter_le f (List.range k)
  simpa using this
theorem doorL_congr {f g : Nat → Bool} (h : ∀ v, f v = g v) (k : Nat) : doorL f k = doorL g k := by rw [show f = g from funext h]
/-- a list of places handed back, with an error -/
def DoorBack (xs : List Int) (err : Int) (w : World) (e : Ending) (w' : World) : Prop := ∃ a c, e = .returned (.tuple #[.slice a xs.length c, .int .i64 err]) ∧ Row encI 1 w' w'.heap.size a xs ∧ Below w.heap.size w w'
set_option maxRecDepth 100000 in
set_option maxHeartbeats 1000000 in
theorem hdoors_bad (W H k : Int) (a : Option Addr) (cap : Nat) (cs : List Int) (w : World) (B : Nat) (hB : B ≤ w.heap.size) (hE : Row encI 1 w B a cs) (hl : cs.length ≤ 9223372036854775807) (h0 : hlErr W H cs k ≠ 0) :
    Calls Try.prog 30 #[.agg #[.int .i64 W, .int .i64 H, .slice a cs.length cap], .int .i64 k] w (DoorBack [] (hlErr W H cs k) w) := by
  have q0 : (hlErr W H cs k != 0) = true := by simp [h0]
  have hC := hide (fun w B hB hE => hlook_any W H a cap cs k w B hB hE hl)
  replace hE := hide hE
  clear h0
  go_enter Try.func30, Try.ntmps30
  go_wp2_with fail
  refine (hC.out _ B (by simp; omega) (hE.out.below ((by repeat (first | with_reducible exact Below.refl _ _ | with_reducible assumption | with_reducible refine up_drewN ?_ | with_reducible refine up_drew ?_ | (with_reducible refine up_alloc ?_ ?_; rotate_left; (first | omega | (simp <;> omega) | simp)) | (with_reducible refine up_set ?_ ?_; rotate_left; (first | omega | (simp <;> omega) | simp)) | (with_reducible refine Below.trans ?_ (Below.mono (by with_reducible assumption) ?_); rotate_left; (first | omega | (simp <;> omega) | simp)))) : Below w.heap.size w _) hB)).mono ?_
  rintro e w1 ⟨rfl, hb1⟩
  go_wp2
  go_ret2
  exact ⟨none, 0, rfl, Row.nil _ _ _ _ _, (by repeat (first | with_reducible exact Below.refl _ _ | with_reducible assumption | with_reducible refine up_drewN ?_ | with_reducible refine up_drew ?_ | (with_reducible refine up_alloc ?_ ?_; rotate_left; (first | omega | (simp <;> omega) | simp)) | (with_reducible refine up_set ?_ ?_; rotate_left; (first | omega | (simp <;> omega) | simp)) | (with_reducible refine Below.trans ?_ (Below.mono (by with_reducible assumption) ?_); rotate_left; (first | omega | (simp <;> omega) | simp))))⟩
set_option maxRecDepth 100000 in
set_option maxHeartbeats 4000000 in
theorem hdoors_ok (W H k : Int) (a : Option Addr) (cap : Nat) (cs : List Int) (w : World) (B : Nat) (hB : B ≤ w.heap.size) (hE : Row encI 1 w B a cs) (hl : cs.length ≤ 9223372036854775807) (h0 : hlErr W H cs k = 0) (es : List Ed) (hes : gridNet W H cs cs.length = es) (hin : ∀ e ∈ es, 0 ≤ e.u ∧ e.u < (cs.length : Int) ∧ 0 ≤ e.v ∧ e.v < (cs.length : Int)) :
    Calls Try.prog 30 #[.agg #[.int .i64 W, .int .i64 H, .slice a cs.length cap], .int .i64 k] w (DoorBack (doorL (dr (betE W k es)) cs.length) 0 w) := by
  obtain ⟨g0, k1, k8⟩ := hl_ok h0
  have h64 := grid_64 g0
  have hn1 : 1 ≤ cs.length := by
    have hbds := gridErr_ok g0
    have : 1 * 1 ≤ W * H := Int.mul_le_mul hbds.1 hbds.2.2.1 (by omega) (by have := hbds.1; omega)
    have := hbds.2.2.2.2.1
    omega
  have hel : es.length ≤ 512 := by have := gridNet_len W H cs cs.length; rw [hes] at this; omega
  have hC := hide (fun w B hB hE => by have := hlook_any W H a cap cs k w B hB hE hl; rw [h0] at this; exact this)
  have hWi := hide (fun w B hB hE => within_any W H k a cap cs w B hB hE g0 k1 k8 es hes (fun e he => by have := hin e he; omega) hel)
  have hD := hide (fun a2 c2 m hm w B hB hE => doors_any cs.length a2 c2 m (betE W k es) hm w B hB hE (by omega) (by omega) (fun e he => by have := hin e (List.mem_filter.1 he).1; omega) (by have := bet_len W k es; omega))
  replace hE := hide hE
  clear h0 g0 hes hin
  obtain ⟨m1, hm1⟩ : ∃ m, m = (insE W k es).length := ⟨_, rfl⟩
  obtain ⟨m2, hm2⟩ : ∃ m, m = (betE W k es).length := ⟨_, rfl⟩
  unfold TwoNets at hWi
  rw [← hm1, ← hm2] at hWi
  generalize insE W k es = xs1 at *
  generalize betE W k es = xs2 at *
  replace hm1 := hide hm1
  replace hm2 := hide hm2
  go_enter Try.func30, Try.ntmps30
  go_wp2_with fail
  refine (hC.out _ B (by simp; omega) (hE.out.below ((by repeat (first | with_reducible exact Below.refl _ _ | with_reducible assumption | with_reducible refine up_drewN ?_ | with_reducible refine up_drew ?_ | (with_reducible refine up_alloc ?_ ?_; rotate_left; (first | omega | (simp <;> omega) | simp)) | (with_reducible refine up_set ?_ ?_; rotate_left; (first | omega | (simp <;> omega) | simp)) | (with_reducible refine Below.trans ?_ (Below.mono (by with_reducible assumption) ?_); rotate_left; (first | omega | (simp <;> omega) | simp)))) : Below w.heap.size w _) hB)).mono ?_
  rintro e w1 ⟨rfl, hb1⟩
  obtain ⟨hc1, hf1⟩ := bcell hb1; have hz1 : w.heap.size < w1.heap.size := (by have := hb1.size; (try simp at this); omega)
  go_wp2_with fail
  refine (hWi.out _ B (by omega) (hE.out.below ((by repeat (first | with_reducible exact Below.refl _ _ | with_reducible assumption | with_reducible refine up_drewN ?_ | with_reducible refine up_drew ?_ | (with_reducible refine up_alloc ?_ ?_; rotate_left; (first | omega | (simp <;> omega) | simp)) | (with_reducible refine up_set ?_ ?_; rotate_left; (first | omega | (simp <;> omega) | simp)) | (with_reducible refine Below.trans ?_ (Below.mono (by with_reducible assumption) ?_); rotate_left; (first | omega | (simp <;> omega) | simp)))) : Below w.heap.size w _) hB)).mono ?_
  rintro e w2 ⟨a1, c1, a2, c2, rfl, _, hr2, hb2⟩
  have hz2 := hb2.size
  have hbw2 := hide (show Below w.heap.size w w2 from (by repeat (first | with_reducible exact Below.refl _ _ | with_reducible assumption | with_reducible refine up_drewN ?_ | with_reducible refine up_drew ?_ | (with_reducible refine up_alloc ?_ ?_; rotate_left; (first | omega | (simp <;> omega) | simp)) | (with_reducible refine up_set ?_ ?_; rotate_left; (first | omega | (simp <;> omega) | simp)) | (with_reducible refine Below.trans ?_ (Below.mono (by with_reducible assumption) ?_); rotate_left; (first | omega | (simp <;> omega) | simp)))))
  replace hr2 := hide hr2
  clear hb1 hb2 hc1 hf1 hC hWi
  go_wp2_with fail
  refine (hD.out a2 c2 m2 hm2.out.symm _ w2.heap.size (by simp; omega) (hr2.out.below (up_alloc (up_alloc (Below.refl _ _) (Nat.le_refl _)) (by simp)) (Nat.le_refl _))).mono ?_
  rintro e w3 ⟨g, rfl, ownB, hb3⟩
  have hb23 := hide (unalloc (unalloc (hb3.mono (by simp; omega)) (by simp)) (Nat.le_refl _) : Below w2.heap.size w2 w3)
  have hz3 := hb23.out.size
  have hbw3 := hide (hbw2.out.trans (hb23.out.mono (by omega)))
  generalize dr xs2 = f at *
  have hg := ownB.at_base.2
  replace ownB := hide ownB
  clear hb3 hr2 hD
  go_wp2
  go_loopw [9, 10, 11, 27] (fun s9 _ _ i wr => ∃ (j p : Nat) (av : Option Addr) (cv : Nat), j ≤ cs.length ∧ p ≤ j ∧ i = .int .i64 j ∧ s9 = .slice av p cv ∧ Hid ((doorL f j).length = p) ∧ Hid (Own encI 1 3 wr w3.heap.size (.slice av p cv) (doorL f j)) ∧ Hid (Below w3.heap.size w3 wr)) (fun _ _ _ i _ => cs.length - (intOf i).toNat)
  case atStart => exact ⟨0, 0, none, 0, Nat.zero_le _, Nat.le_refl _, rfl, rfl, hide rfl, hide (Own.nil _ _), hide (Below.refl _ _)⟩
  case round =>
    obtain ⟨j, p, av, cv, hj, hp, rfl, rfl, hlp, own, hb⟩ := hrel
    have hzr := hb.out.size
    by_cases hlt : j < cs.length
    · have d0 := cu_below hb.out (ownB.out.atB j hlt) (by simp; omega)
      have hgr : g < wr.heap.size := by omega
      have hds := hide (doorL_succ f j)
      have ij : (0 : Int) ≤ (j : Int) ∧ (j : Int) < (cs.length : Int) := by omega
      obtain ⟨fj, hfj⟩ : ∃ fj, fj = f j := ⟨_, rfl⟩
      rw [← hfj] at d0 hds
      replace hfj := hide hfj
      cases fj with
      | true =>
        simp only [if_true] at hds
        go_wp2_with (at_builtin; (refine wpList_push (e := 3) (enc := encI) (xs := doorL f j) (v := .slice av (p) cv) (base := w3.heap.size) rfl (.tmp 33) (.tmp 35) 34 rfl _ 8 Try.underlying34 info_int rfl ?d11 lenI oneI (p) ?d21 ?d31 ?d41 ⟨wr.heap.size, 0, none⟩ 1 (j : Int) ?d51 ?d61 ?d71 ?d81 ?d91 ?_); (case d11 => omega); (case d21 => exact hlp.out); (case d31 => rfl); (case d41 => exact (own.out.alloc _)); (case d51 => rfl); (case d61 => exact newI _ _ _ _ rfl); (case d71 => omega); (case d81 => unfold maxLen; omega); (case d91 => first | omega | (simp; done) | (simp; omega)); intro g1 c1 w1 own1 hb1 hgr1 hg1 hgl1; have hB1 := hide (unalloc hb1 (by omega)); replace own1 := hide own1; replace hb1 := hide hb1; replace hgr1 := hide hgr1)
        go_roundw
        case rel => exact ⟨j + 1, p + 1, _, _, by omega, by omega, by go_num, rfl, hide (by rw [hds.out, List.length_append, hlp.out]; rfl), hide (by rw [hds.out]; exact own1.out), hide (hb.out.trans hB1.out)⟩
        case measure => simp [intOf]; omega
      | false =>
        simp only [Bool.false_eq_true, if_false] at hds
        go_wp2
        go_roundw
        case rel => exact ⟨j + 1, p, av, cv, by omega, by omega, by go_num, rfl, hide (by rw [hds.out]; exact hlp.out), hide (by rw [hds.out]; exact own.out), hb⟩
        case measure => simp [intOf]; omega
    · obtain rfl : j = cs.length := by omega
      obtain ⟨a', c', hv', hrp, _⟩ := own.out.row lenI
      injection hv' with g1 g2 g3
      subst g1 g3
      clear g2
      replace hrp := hide hrp
      go_wp2
      go_ret2
      exact ⟨av, cv, by rw [hlp.out]; rfl, hrp.out, hbw3.out.trans (hb.out.mono (by have := hbw3.out.size; omega))⟩
end Go.Proofs.Ytgkiipmeigfjnaa
