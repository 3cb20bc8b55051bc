/-
  Several texts in one:
  The longest ways along an order of places are the least ones of the net with its costs turned. No program here.
  What dag.Long returns: the longest ways, or that there is a cycle. Conditions: the net reads.
  What the reference's Long returns: the least ways of the net with its costs turned, turned. Conditions: a right net.
  The walk of felllaw.DagSays: it returns true. Conditions: the argument reads as data.
-/
import Derived.Test.YtdpbkhempgghaaaROrder
import Derived.Test.YtdpbkhempgghaaaKahnQ
import Derived.Test.YtdpbkhempgghaaaAnyBad
import Derived.Test.YtdpbkhempgghaaaDagO
import Derived.Test.YtdpbkhempgghaaaRTurn
import Derived.Deep.RegionHeld3
import Derived.Test.YtdpbkhempgghaaaEqL
import Derived.Test.YtdpbkhempgghaaaOpen
/-! The longest ways along an order of places are the least ones of the net with its costs turned. No program here. -/
namespace Go.Proofs.Ytdpbkhempgghaaa
set_option linter.unusedSimpArgs false
set_option linter.unusedVariables false
def negN (e : NE) : NE := ⟨e.u, e.v, -e.c⟩
def negEd (e : Ed) : Ed := ⟨e.u, e.v, -e.c⟩
theorem nes_neg (es : List Ed) : nes (es.map negEd) = (nes es).map negN := by simp [nes, negEd, negN, Function.comp_def]
theorem right_neg {n : Nat} {es : List Ed} (h : Right n es) : Right n (es.map negEd) := by
  intro e he
  obtain ⟨x, hx, rfl⟩ := List.mem_map.1 he
  have := h x hx
  simp only [negEd]
  omega
/-- along the places P, with T of the last one's edges still to do -/
structure LgI (E : List NE) (P : List Nat) (T : List NE) (D : Nat → Int) : Prop where
  nn : ∀ v, 0 ≤ D v
  att : ∀ v, At (E.map negN) (fun _ => 0) v (-(D v))
  feas : ∀ e ∈ E, e.u ∈ P → e ∈ T ∨ D e.u + e.c ≤ D e.v
theorem LgI.start (E : List NE) : LgI E [] [] (fun _ => 0) :=
  ⟨fun _ => Int.le_refl _, fun v => At.base (s := fun _ => 0) v (by simp [FAR]), fun e _ h => absurd h (by simp)⟩
theorem LgI.step {E : List NE} {P : List Nat} {T : List NE} {D : Nat → Int} {e0 : NE} (h : LgI E P (e0 :: T) D) (he : e0 ∈ E) (hu : e0.u ∈ P) (hv : e0.v ∉ P) {x : Int} (hx : x = max (D e0.v) (D e0.u + e0.c)) : LgI E P T (upz D e0.v x) := by
  have hge : ∀ z, D z ≤ upz D e0.v x z := fun z => by
    by_cases hz : z = e0.v
    · subst hz; rw [upz_same]; omega
    · rw [upz_other _ _ hz]; exact Int.le_refl _
  refine ⟨fun z => Int.le_trans (h.nn z) (hge z), fun z => ?_, fun e heE heP => ?_⟩
  · by_cases hz : z = e0.v
    · subst hz
      rw [upz_same]
      rcases Int.lt_or_le (D e0.v) (D e0.u + e0.c) with h1 | h1
      · have h2 := At.step (negN e0) (-(D e0.u)) (List.mem_map.2 ⟨e0, he, rfl⟩) (h.att e0.u) (by have := h.nn e0.u; unfold FAR; omega) (by
          have h3 := h.nn e0.u
          have h4 := h.nn e0.v
          show -(D e0.u) + -e0.c < FAR
          unfold FAR
          omega)
        have h5 : -x = -(D e0.u) + (negN e0).c := by show -x = -(D e0.u) + -e0.c; omega
        rw [h5]
        exact h2
      · have : x = D e0.v := by omega
        rw [this]
        exact h.att e0.v
    · rw [upz_other _ _ hz]; exact h.att z
  · have hne : e.u ≠ e0.v := fun hc => hv (hc ▸ heP)
    rw [upz_other _ _ hne]
    rcases h.feas e heE heP with h1 | h1
    · rcases List.mem_cons.1 h1 with h2 | h2
      · subst h2
        right
        rw [upz_same]
        omega
      · exact .inl h2
    · right
      have := hge e.v
      omega
theorem LgI.next {E : List NE} {P : List Nat} {D : Nat → Int} {v : Nat} {T : List NE} (h : LgI E P [] D) (hT : ∀ e ∈ E, e.u = v → e ∈ T) : LgI E (P ++ [v]) T D := by
  refine ⟨h.nn, h.att, fun e he hp => ?_⟩
  rcases List.mem_append.1 hp with h1 | h1
  · rcases h.feas e he h1 with h2 | h2
    · cases h2
    · exact .inr h2
  · exact .inl (hT e he (List.mem_singleton.1 h1))
theorem LgI.says {n : Nat} {es : List Ed} {P : List Nat} {D : Nat → Int} (h : LgI (nes es) P [] D) (hn : 1 ≤ n) (hes : Right n es) (hP : ∀ v, v < n → v ∈ P) : LI n D = LI n (fun v => -(lift n (es.map negEd) v)) := by
  have hr := right_neg hes
  refine li_congr fun v hv => ?_
  have key := spread_fix (es := nes (es.map negEd)) (s := fun _ => 0) (f := fun v => -(D v)) (n := n) hn (nes_right hr) (fun _ => by simp [FAR])
    (by
      intro e he _
      rw [nes_neg] at he
      obtain ⟨x, hx, rfl⟩ := List.mem_map.1 he
      have h1 := h.feas x hx (hP _ (nes_right hes x hx).1)
      rcases h1 with h1 | h1
      · cases h1
      · show -(D x.v) ≤ -(D x.u) + -x.c
        omega)
    (fun v => ⟨by have := h.nn v; show -(D v) ≤ 0; omega, fun _ => by rw [nes_neg]; exact h.att v⟩) (n - 1) (by omega) v hv
  unfold lift
  rw [key]
  omega
/-- no edge of a place leads back -/
theorem kahn_topo {E : List NE} {n : Nat} (hE : ∀ e ∈ E, e.v < n) : ∀ (f : Nat) (rem : List Nat), KInv E n rem →
    (∀ i (hi : i < (kahnG (ldE E) f rem).length), (kahnG (ldE E) f rem)[i] ∈ rem ∧ ∀ e ∈ E, e.u = (kahnG (ldE E) f rem)[i] → e.v ∈ rem ∧ e.v ∉ (kahnG (ldE E) f rem).take (i + 1)) ∧
    ((kahnG (ldE E) f rem).length = rem.length → ∀ v ∈ rem, v ∈ kahnG (ldE E) f rem)
  | 0, rem, _ => ⟨fun i hi => absurd hi (by simp [kahnG]), fun h v hv => by
      have : rem = [] := List.eq_nil_of_length_eq_zero (by rw [← h]; rfl)
      rw [this] at hv; cases hv⟩
  | f + 1, rem, hK => by
    cases hf : rem.find? (freeG (ldE E) rem) with
    | none =>
      have hk : kahnG (ldE E) (f + 1) rem = [] := by
        show (match rem.find? (freeG (ldE E) rem) with | none => [] | some v => v :: kahnG (ldE E) f (rem.erase v)) = _
        rw [hf]
      rw [hk]
      refine ⟨fun i hi => absurd hi (by simp), fun h v hv => ?_⟩
      have : rem = [] := List.eq_nil_of_length_eq_zero (by rw [← h]; rfl)
      rw [this] at hv; cases hv
    | some m =>
      have hk : kahnG (ldE E) (f + 1) rem = m :: kahnG (ldE E) f (rem.erase m) := by
        show (match rem.find? (freeG (ldE E) rem) with | none => [] | some v => v :: kahnG (ldE E) f (rem.erase v)) = _
        rw [hf]
      have hm : m ∈ rem := List.mem_of_find?_eq_some hf
      have h0 : cnt E rem m = 0 := (freeV_cnt E rem m).1 (List.find?_some hf)
      obtain ⟨hK2, hout⟩ := k_pop hK hE hm h0
      obtain ⟨ih1, ih2⟩ := kahn_topo hE f (rem.erase m) hK2
      rw [hk]
      refine ⟨fun i hi => ?_, fun h v hv => ?_⟩
      · cases i with
        | zero =>
          refine ⟨hm, fun e he hu => ?_⟩
          have h1 := hout e he hu
          have h2 := (hK.nodup.mem_erase_iff).1 h1
          exact ⟨h2.2, by simp; exact h2.1⟩
        | succ i =>
          simp only [List.getElem_cons_succ]
          obtain ⟨h1, h2⟩ := ih1 i (by simpa using hi)
          refine ⟨List.mem_of_mem_erase h1, fun e he hu => ?_⟩
          obtain ⟨h3, h4⟩ := h2 e he hu
          have h5 := (hK.nodup.mem_erase_iff).1 h3
          exact ⟨h5.2, by simp only [List.take_succ_cons, List.mem_cons, not_or]; exact ⟨h5.1, h4⟩⟩
      · have hl : (kahnG (ldE E) f (rem.erase m)).length = (rem.erase m).length := by
          have h1 := List.length_erase_of_mem hm
          have h2 := List.length_pos_of_mem hm
          simp only [List.length_cons] at h
          omega
        by_cases hvm : v = m
        · exact List.mem_cons.2 (.inl hvm)
        · exact List.mem_cons_of_mem _ (ih2 hl v ((hK.nodup.mem_erase_iff).2 ⟨hvm, hv⟩))
theorem kahnE_topo {n : Nat} {es : List Ed} (hes : Right n es) {i : Nat} (hi : i < (kahnE n es).length) : (kahnE n es)[i] < n ∧ ∀ e ∈ nes es, e.u = (kahnE n es)[i] → e.v ∉ (kahnE n es).take (i + 1) := by
  have h := (kahn_topo (fun e he => (nes_right hes e he).2) n (List.range n) (k_start (nes es) n)).1 i hi
  exact ⟨List.mem_range.1 h.1, fun e he hu => (h.2 e he hu).2⟩
theorem kahnE_all {n : Nat} {es : List Ed} (hes : Right n es) (hl : (kahnE n es).length = n) (v : Nat) (hv : v < n) : v ∈ kahnE n es :=
  (kahn_topo (fun e he => (nes_right hes e he).2) n (List.range n) (k_start (nes es) n)).2 (by rw [List.length_range]; exact hl) v (List.mem_range.2 hv)
theorem todo_mem0 {es : List Ed} {v j : Nat} {e : NE} (h : e ∈ todoOf es v j) : e ∈ todoOf es v 0 := by
  unfold todoOf at h ⊢
  rw [List.map_drop] at h
  rw [List.drop_zero]
  exact List.mem_of_mem_drop h
end Go.Proofs.Ytdpbkhempgghaaa

/-! What dag.Long returns: the longest ways, or that there is a cycle. Conditions: the net reads. -/
namespace Go.Proofs.Ytdpbkhempgghaaa
open Go.RowKit
set_option linter.unusedSimpArgs false
set_option linter.unusedVariables false
/-- what holds while Long runs on -/
structure LD (base : Nat) (w3 : World) (n gD : Nat) (D : Nat → Int) (wr : World) : Prop where
  own : Own encI 1 3 wr base (.slice (some ⟨gD, 0, none⟩) n n) (LI n D)
  keep : Keep (fun j => j = gD) w3 wr
section
variable {base : Nat} {w3 wr : World} {n gD : Nat} {D : Nat → Int}
theorem LD.drew (h : LD base w3 n gD D wr) : LD base w3 n gD D wr.drew := ⟨h.own.drew, h.keep.drew⟩
theorem LD.drewN (h : LD base w3 n gD D wr) (m : Nat) : LD base w3 n gD D (wr.drewN m) := ⟨h.own.drewN m, h.keep.drewN m⟩
theorem LD.alloc (h : LD base w3 n gD D wr) (o : Obj) : LD base w3 n gD D (wr.alloc o) := ⟨h.own.alloc o, h.keep.alloc o⟩
theorem LD.set (h : LD base w3 n gD D wr) (v : Nat) (hv : v < n) (x : Int) : LD base w3 n gD (upz D v x) (wr.setCell ⟨gD, v, none⟩ (.int .i64 x)) := ⟨h.own.setI v hv x, h.keep.setCell (.inl rfl) _⟩
end
/-- the longest ways -/
def longE (n : Nat) (es : List Ed) (v : Nat) : Int := -(lift n (es.map negEd) v)
def LongAns (n : Nat) (es : List Ed) (w : World) (e : Ending) (w' : World) : Prop := Below w.heap.size w w' ∧ (((kahnE n es).length < n ∧ e = .returned (.tuple #[.slice none 0 0, .int .i64 6])) ∨ ((kahnE n es).length = n ∧ ∃ v, e = .returned (.tuple #[v, .int .i64 0]) ∧ Own encI 1 3 w' w.heap.size v (LI n (longE n es))))
set_option maxRecDepth 100000 in
set_option maxHeartbeats 1000000 in
theorem dlong_bad (N : Int) (an : Option Addr) (cap : Nat) (es : List Ed) (w : World) (B : Nat) (hB : B ≤ w.heap.size) (hE : Row encE 3 w B an es) (hl : es.length ≤ 9223372036854775807) (h0 : netErr N es ≠ 0) :
    Calls Try.prog 44 #[.agg #[.int .i64 N, .slice an es.length cap]] w fun e w' => e = .returned (.tuple #[.slice none 0 0, .int .i64 (netErr N es)]) ∧ Below w.heap.size w w' := by
  have q0 : (netErr N es != 0) = true := by simp [h0]
  have hC := hide (fun w B hB hE => dorder_bad N an cap es w B hB hE hl h0)
  replace hE := hide hE
  clear h0
  go_enter Try.func44, Try.ntmps44
  go_wp2_with fail
  refine (hC.out _ B (by simp <;> omega) (hE.out.below ((by repeat (first | with_reducible exact Below.refl _ _ | with_reducible assumption | with_reducible refine up_drewN ?_ | with_reducible refine up_drew ?_ | (with_reducible refine up_alloc ?_ ?_; rotate_left; (first | omega | (simp <;> omega) | simp)) | (with_reducible refine up_set ?_ ?_; rotate_left; (first | omega | (simp <;> omega) | simp)) | (with_reducible refine Below.trans ?_ (Below.mono (by with_reducible assumption) ?_); rotate_left; (first | omega | (simp <;> omega) | simp)))) : Below w.heap.size w _) hB)).mono ?_
  rintro e w1 ⟨rfl, hb1⟩
  clear hC
  go_wp2
  go_ret2
  exact ⟨rfl, (by repeat (first | with_reducible exact Below.refl _ _ | with_reducible assumption | with_reducible refine up_drewN ?_ | with_reducible refine up_drew ?_ | (with_reducible refine up_alloc ?_ ?_; rotate_left; (first | omega | (simp <;> omega) | simp)) | (with_reducible refine up_set ?_ ?_; rotate_left; (first | omega | (simp <;> omega) | simp)) | (with_reducible refine Below.trans ?_ (Below.mono (by with_reducible assumption) ?_); rotate_left; (first | omega | (simp <;> omega) | simp))))⟩
set_option maxRecDepth 100000 in
set_option maxHeartbeats 4000000 in
theorem dlong_ok (n : Nat) (an : Option Addr) (cap : Nat) (es : List Ed) (w : World) (B : Nat) (hB : B ≤ w.heap.size) (hE : Row encE 3 w B an es) (hl : es.length ≤ 9223372036854775807) (h0 : netErr (n : Int) es = 0) :
    Calls Try.prog 44 #[.agg #[.int .i64 (n : Int), .slice an es.length cap]] w (LongAns n es w) := by
  obtain ⟨n1, n2, n3, n4⟩ := netErr_ok h0
  have hes : Right n es := n4
  have hC := hide (fun w B hB hE => dorder_ok n an cap es w B hB hE hl h0)
  have hn : n ≤ 64 := by omega
  replace hE := hide hE
  replace hes := hide hes
  clear h0 n4
  go_enter Try.func44, Try.ntmps44
  go_wp2_with fail
  refine (hC.out _ B (by simp <;> omega) (hE.out.below ((by repeat (first | with_reducible exact Below.refl _ _ | with_reducible assumption | with_reducible refine up_drewN ?_ | with_reducible refine up_drew ?_ | (with_reducible refine up_alloc ?_ ?_; rotate_left; (first | omega | (simp <;> omega) | simp)) | (with_reducible refine up_set ?_ ?_; rotate_left; (first | omega | (simp <;> omega) | simp)) | (with_reducible refine Below.trans ?_ (Below.mono (by with_reducible assumption) ?_); rotate_left; (first | omega | (simp <;> omega) | simp)))) : Below w.heap.size w _) hB)).mono ?_
  rintro e w1 ⟨hb1, ⟨hlt, rfl⟩ | ⟨hlen, v, rfl, own1⟩⟩
  · replace hlt := hide hlt
    clear hC
    go_wp2
    go_ret2
    exact ⟨(by repeat (first | with_reducible exact Below.refl _ _ | with_reducible assumption | with_reducible refine up_drewN ?_ | with_reducible refine up_drew ?_ | (with_reducible refine up_alloc ?_ ?_; rotate_left; (first | omega | (simp <;> omega) | simp)) | (with_reducible refine up_set ?_ ?_; rotate_left; (first | omega | (simp <;> omega) | simp)) | (with_reducible refine Below.trans ?_ (Below.mono (by with_reducible assumption) ?_); rotate_left; (first | omega | (simp <;> omega) | simp)))), .inl ⟨hlt.out, rfl⟩⟩
  · obtain ⟨a2, c2, rfl⟩ := own1.shape (n := n) (by rw [ln_len, hlen])
    have k0 : w1.cell? ⟨w.heap.size, 0, none⟩ = some (.int .i64 (n : Int)) := cu_below hb1 (by simp [go_sem]) (by simp <;> omega)
    have k1 : w1.cell? ⟨w.heap.size, 1, none⟩ = some (.slice an es.length cap) := cu_below hb1 (by simp [go_sem]) (by simp <;> omega)
    have hz1 : w.heap.size < w1.heap.size := cell_lt k0
    have hbw1 := hide (show Below w.heap.size w w1 from (by repeat (first | with_reducible exact Below.refl _ _ | with_reducible assumption | with_reducible refine up_drewN ?_ | with_reducible refine up_drew ?_ | (with_reducible refine up_alloc ?_ ?_; rotate_left; (first | omega | (simp <;> omega) | simp)) | (with_reducible refine up_set ?_ ?_; rotate_left; (first | omega | (simp <;> omega) | simp)) | (with_reducible refine Below.trans ?_ (Below.mono (by with_reducible assumption) ?_); rotate_left; (first | omega | (simp <;> omega) | simp)))))
    obtain ⟨l, hle⟩ : ∃ l, l = kahnE n es := ⟨_, rfl⟩
    rw [← hle] at own1 hlen
    obtain ⟨gl, rfl, hgl1, hgl2⟩ := own1.blockI' (by omega)
    have htp := hide (show ∀ i (hi : i < l.length), l[i] < n ∧ ∀ e ∈ nes es, e.u = l[i] → e.v ∉ l.take (i + 1) from by subst hle; exact fun i hi => kahnE_topo hes.out hi)
    have hal := hide (show ∀ v, v < n → v ∈ l from by subst hle; exact fun v hv => kahnE_all hes.out hlen v hv)
    have hlk := hide (show (kahnE n es).length = n by rw [← hle]; exact hlen)
    have hln : l.length = n := hlen
    replace hle := hide hle
    replace hlen := hide hlen
    replace own1 := hide own1
    clear hC hb1 hgl1
    go_wp2_with fail
    refine (outs_any n an cap es w1 B (by have := hbw1.out.size; omega) (hE.out.below hbw1.out hB) hn (by omega) (fun e he => by have := hes.out e he; omega)).mono ?_
    rintro e w2 ⟨O, rfl, oOwn, hb2⟩
    have hz2 := hb2.size
    have m0 := cu_below hb2 k0 hz1
    have m1 := cu_below hb2 k1 hz1
    have hbw2 := hide (hbw1.out.trans (hb2.mono (by have := hbw1.out.size; omega)))
    have own2 := hide (own1.out.stays hb2)
    have hO : w1.heap.size ≤ O ∧ O < w2.heap.size := by obtain ⟨vs, _, h2, _⟩ := oOwn; exact h2.at_base
    replace oOwn := hide oOwn
    have hw2 : w.heap.size < w2.heap.size := by omega
    clear hb2 k0 k1 own1
    go_wp2_with (at_make; (refine wpList_mk (e := 3) (enc := encI) rfl (.tmp 24) 22 rfl (.int .i64 0) 8 (0 : Int) Try.underlying22 info_int rfl rfl (n) ?e13 ?e23 ?e33 (w.heap.size) ?e43 ?_); (case e13 => rfl); (case e23 => omega); (case e33 => unfold maxLen; omega); (case e43 => first | omega | (simp; done) | (simp; omega)); intro w3 own3 hb3 hsz3; replace own3 := hide own3; have c0 := cu_below hb3 m0 hw2; have c1 := cu_below hb3 m1 hw2; have hb3' := hide hb3; clear hb3 m0 m1)
    obtain ⟨gD, hgD⟩ : ∃ gD, gD = w2.heap.size := ⟨_, rfl⟩
    rw [← hgD] at own3 hsz3
    simp only [← hgD]
    have hgD2 : w2.heap.size ≤ gD := by omega
    replace hgD := hide hgD
    have hD0 := hide (show LD w.heap.size w3 n gD (fun _ => 0) w3 from ⟨by have := own3.out; rw [li_rep] at this; exact this, Keep.refl _ _⟩)
    have hL0 := hide (LgI.start (nes es))
    have hz3 := hb3'.out.size
    clear own3
    go_wp2
    go_loopw [9, 11, 12, 28] (fun _ _ _ i wr => ∃ (k : Nat) (D : Nat → Int), k ≤ n ∧ i = .int .i64 k ∧ Hid (LD w.heap.size w3 n gD D wr) ∧ Hid (LgI (nes es) (l.take k) [] D) ∧ Hid (∀ v, D v ≤ 10000 * (601 * k))) (fun _ _ _ i _ => n - (intOf i).toNat)
    case atStart => exact ⟨0, fun _ => 0, Nat.zero_le _, rfl, hD0, by simpa using hL0, fun v => by simp⟩
    case round =>
      clear hD0 hL0
      obtain ⟨k, D, hk, rfl, hD, hG, hU⟩ := hrel
      obtain ⟨wo, rfl⟩ : ∃ wo : World, wo = wr := ⟨_, rfl⟩
      have hzr := hD.out.keep.size
      by_cases hlt : k < n
      · have hkl : k < l.length := by omega
        obtain ⟨m, hm⟩ : ∃ m, m = l[k] := ⟨_, rfl⟩
        obtain ⟨hmn, htop⟩ := htp.out k hkl
        rw [← hm] at hmn htop
        have lc := own2.out.getI k (by rw [ln_len]; omega)
        have hlm : (LN l)[k]'(by rw [ln_len]; omega) = (m : Int) := by rw [hm]; simp [LN]
        rw [hlm] at lc
        have lc2 := cu_below hb3'.out lc (by simp; omega)
        have lc3 := hD.out.keep.cu lc2 (by simp; omega)
        have hgl3 : gl < wo.heap.size := by omega
        have hul : m < (outRows n es es.length).length := by rw [outRows_len]; exact hmn
        obtain ⟨ax, cx, r0, rown, _⟩ := oOwn.out.at m hul
        rw [outRows_get] at r0 rown
        obtain ⟨L, hL⟩ : ∃ L, L = (outIdx es m es.length).length := ⟨_, rfl⟩
        rw [← hL] at r0 rown
        have hLl : L ≤ es.length := by rw [hL]; exact outIdx_len es m es.length
        have r1 := cu_below hb3'.out r0 (by simp; omega)
        have r2 := hD.out.keep.cu r1 (by simp; omega)
        have hO3 : O < wo.heap.size := by omega
        have htk : l.take (k + 1) = l.take k ++ [m] := by rw [hm, List.take_succ_eq_append_getElem hkl]
        have hG2 := hide (show LgI (nes es) (l.take (k + 1)) (todoOf es m 0) D by rw [htk]; exact hG.out.next (todo_all hes.out m))
        have hmt : m ∈ l.take (k + 1) := by rw [htk]; simp
        have hU2 := hide (show ∀ v, D v ≤ 10000 * (601 * k + (0 : Nat)) from fun v => by have := hU.out v; omega)
        replace htk := hide htk
        replace hL := hide hL
        replace hm := hide hm
        replace rown := hide rown
        replace htop := hide htop
        replace hmt := hide hmt
        have im : (0 : Int) ≤ (m : Int) ∧ (m : Int) < (n : Int) := by omega
        have ik : (0 : Int) ≤ (k : Int) ∧ (k : Int) < (n : Int) := by omega
        clear r0 r1 lc lc2 hlm
        go_wp2
        clear lc3 r2
        go_loopw [11, 12, 37] (fun _ _ i wr => ∃ (j : Nat) (D : Nat → Int), j ≤ L ∧ i = .int .i64 j ∧ Hid (LD w.heap.size w3 n gD D wr) ∧ Hid (LgI (nes es) (l.take (k + 1)) (todoOf es m j) D) ∧ Hid (∀ v, D v ≤ 10000 * (601 * k + j))) (fun _ _ i _ => L - (intOf i).toNat)
        case atStart => exact ⟨0, D, Nat.zero_le _, rfl, hD, hG2, hU2⟩
        case round =>
          clear hD hG2 hU2 hG hU
          obtain ⟨j, D, hj, rfl, hD, hG, hU⟩ := hrel
          have hzr2 := hD.out.keep.size
          by_cases hlt2 : j < L
          · have hjl : j < (outIdx es m es.length).length := by rw [← hL.out]; exact hlt2
            obtain ⟨i, hi1, hi2, hi3⟩ := outIdx_get es m j hjl
            obtain ⟨u2, vv, e1, e2, e3, e4, e5, e6, -⟩ := right_edge hes.out i hi2
            have htd := todo_step hjl hi1 hi2 hi3 e2
            obtain ⟨gr, rfl, hgr1, hgr2⟩ := rown.out.blockI' (by omega)
            have rc := rown.out.getI j hjl
            rw [hi1] at rc
            have rc1 := cu_below hb3'.out rc (by simp; omega)
            have rc2 := hD.out.keep.cu rc1 (by simp; omega)
            have hgrl : gr < wr.heap.size := by omega
            have d1 := hD.out.keep.cu c1 (by simp; omega)
            have d1l : w.heap.size < wr.heap.size := by omega
            have hbw := hide (hbw2.out.trans ((hb3'.out.mono (by omega)).trans (hD.out.keep.toBelow (B := w.heap.size) (fun j hj => by omega) (by omega))))
            obtain ⟨b, o, rfl, hbB, x0, x1, x2⟩ := hE.out.ed i hi2
            have x0 := cu_below hbw.out x0 (by simp; omega)
            have x1 := cu_below hbw.out x1 (by simp; omega)
            have x2 := cu_below hbw.out x2 (by simp; omega)
            obtain ⟨ec, hec⟩ : ∃ ec, ec = es[i].c := ⟨_, rfl⟩
            rw [hi3] at x0
            rw [e2] at x1
            rw [← hec] at x2 htd e5 e6
            have hbl : b < wr.heap.size := cell_lt x0
            have hme : (⟨m, vv, ec⟩ : NE) ∈ nes es := List.mem_map.2 ⟨es[i], List.getElem_mem hi2, by rw [hi3, e2, hec]; simp⟩
            have hvn := htop.out _ hme rfl
            rw [htd] at hG
            have hS := hide (fun x hx => hG.out.step (x := x) hme hmt.out hvn hx)
            simp only at hS
            have cA := hD.out.own.atI vv e4
            have cM := hD.out.own.atI m hmn
            have fA := hD.out.own.free vv
            have lA := hD.out.own.at_base.2
            have bA := hG.out.nn vv
            have bM := hG.out.nn m
            have uA := hU.out vv
            have uM := hU.out m
            have hset := hide (fun x => hD.out.set vv e4 x)
            obtain ⟨dv, hdv⟩ : ∃ x, x = D vv := ⟨_, rfl⟩
            obtain ⟨du, hdu⟩ : ∃ x, x = D m := ⟨_, rfl⟩
            have hU3 := hide (show ∀ x, x = max (D vv) (D m + ec) → ∀ z, upz D vv x z ≤ 10000 * (601 * k + (j + 1 : Nat)) from fun x hx z => by
              by_cases hz : z = vv
              · subst hz; rw [upz_same]; omega
              · rw [upz_other _ _ hz]; have := hU.out z; omega)
            rw [← hdv] at cA bA uA hU3
            rw [← hdu] at cM bM uM hU3
            have hS2 := hide (show ∀ x, x = max dv (du + ec) → LgI (nes es) (l.take (k + 1)) (todoOf es m (j + 1)) (upz D vv x) from fun x hx => hS.out x (by rw [← hdv, ← hdu]; exact hx))
            have ij : (0 : Int) ≤ (j : Int) ∧ (j : Int) < (L : Int) := by omega
            have ii : (0 : Int) ≤ (i : Int) ∧ (i : Int) < (es.length : Int) := by omega
            have iv : (0 : Int) ≤ (vv : Int) ∧ (vv : Int) < (n : Int) := by omega
            have hgb : gD ≠ b := by omega
            have hLk : (k : Int) ≤ 63 ∧ (j : Int) ≤ 600 := by omega
            replace hdv := hide hdv
            replace hdu := hide hdu
            replace hec := hide hec
            replace e1 := hide e1
            replace e2 := hide e2
            replace htd := hide htd
            replace hi1 := hide hi1
            replace hi3 := hide hi3
            replace hme := hide hme
            replace hvn := hide hvn
            clear rc rc1 hS
            rcases Int.lt_or_le dv (du + ec) with hmx | hmx
            · have hm2 := hide (show du + ec = max dv (du + ec) by omega)
              go_wp2
              go_region
              go_wp2
              go_roundw
              case rel =>
                refine ⟨j + 1, upz D vv (du + ec), by omega, by go_num, ?_, hide (hS2.out _ hm2.out), hide (hU3.out _ hm2.out)⟩
                exact hide (by repeat (first | with_reducible exact hD.out | with_reducible refine LD.drew ?_ | with_reducible refine LD.drewN ?_ _ | with_reducible refine LD.alloc ?_ _ | with_reducible refine LD.set ?_ _ e4 _))
              case measure => simp [intOf]; omega
            · have hm2 := hide (show dv = max dv (du + ec) by omega)
              go_wp2
              go_region
              go_wp2
              go_roundw
              case rel =>
                refine ⟨j + 1, upz D vv dv, by omega, by go_num, ?_, hide (hS2.out _ hm2.out), hide (hU3.out _ hm2.out)⟩
                exact hide (by repeat (first | with_reducible exact hD.out | with_reducible refine LD.drew ?_ | with_reducible refine LD.drewN ?_ _ | with_reducible refine LD.alloc ?_ _ | with_reducible refine LD.set ?_ _ e4 _))
              case measure => simp [intOf]; omega
          · obtain rfl : j = L := by omega
            have hG3 := hide (show LgI (nes es) (l.take (k + 1)) [] D by have := hG.out; rw [hL.out, todo_end] at this; exact this)
            have hU3 := hide (show ∀ v, D v ≤ 10000 * (601 * (k + 1 : Nat)) from fun v => by have := hU.out v; omega)
            go_wp2
            go_roundw
            case rel => exact ⟨k + 1, D, by omega, by go_num, hD, hG3, hU3⟩
            case measure => simp [intOf]; omega
      · obtain rfl : n = k := by omega
        have hfin := hide (show LI n D = LI n (longE n es) by
          have h1 := hG.out
          rw [List.take_of_length_le (by omega)] at h1
          exact h1.says (by omega) hes.out hal.out)
        have hbw := hide (hbw2.out.trans ((hb3'.out.mono (by omega)).trans (hD.out.keep.toBelow (B := w.heap.size) (fun j hj => by omega) (by omega))))
        go_wp2
        go_ret2
        exact ⟨hbw.out, .inr ⟨hlk.out, _, rfl, by rw [← hfin.out]; exact hD.out.own⟩⟩
end Go.Proofs.Ytdpbkhempgghaaa

/-! What the reference's Long returns: the least ways of the net with its costs turned, turned. Conditions: a right net. -/
namespace Go.Proofs.Ytdpbkhempgghaaa
open Go.RowKit
set_option linter.unusedSimpArgs false
set_option linter.unusedVariables false
def negs (es : List Ed) (k : Nat) : List Ed := (es.take k).map negEd ++ es.drop k
theorem negs_len (es : List Ed) (k : Nat) (hk : k ≤ es.length) : (negs es k).length = es.length := by simp [negs]; omega
theorem negs_get (es : List Ed) (k : Nat) (hk : k < es.length) (h : k < (negs es k).length) : (negs es k)[k] = es[k] := by
  simp only [negs]
  rw [List.getElem_append_right (by simp; omega)]
  simp [Nat.min_eq_left (Nat.le_of_lt hk)]
theorem negs_step (es : List Ed) (k : Nat) (hk : k < es.length) : (negs es k).set k (negEd es[k]) = negs es (k + 1) := by
  simp only [negs]
  rw [List.set_append_right _ _ (by simp; omega), List.take_succ_eq_append_getElem hk, List.map_append]
  rw [show k - ((es.take k).map negEd).length = 0 by simp; omega]
  have hd := List.drop_eq_getElem_cons hk
  rw [hd, List.set_cons_zero]
  simp only [List.map_cons, List.map_nil, List.append_assoc, List.singleton_append]
theorem long_set_up {w0 w : World} {p : Addr} {u : Value} (h : Below w0.heap.size w0 w) (hp : w0.heap.size ≤ p.block) : Below w0.heap.size w0 (w.setCell p u) := h.setCell hp u
theorem negs_put {e : TypeId} {w : World} {base g n c : Nat} {es : List Ed} {k : Nat} (own : Own encE 3 e w base (.slice (some ⟨g, 0, none⟩) n c) (negs es k)) (hlt : k < es.length) :
    Own encE 3 e (w.setCell ⟨g, k * 3 + 2, none⟩ (.int .i64 (-es[k].c))) base (.slice (some ⟨g, 0, none⟩) n c) (negs es (k + 1)) := by
  have hkl : k < (negs es k).length := by rw [negs_len es k (by omega)]; exact hlt
  have h1 := own.put lenE k hkl 2 (by omega) (.int .i64 (-es[k].c)) (negEd es[k]) (by rw [negs_get es k hlt hkl]; rfl)
  rw [negs_step es k hlt] at h1
  exact h1
def MidL (N : Int) (es : List Ed) (w0 : World) (s3 : Value) (wx : World) : Prop := ∃ p av c', s3 = .pointer (some ⟨p, 0, none⟩) ∧ w0.heap.size ≤ p ∧ wx.cell? ⟨p, 0, none⟩ = some (.int .i64 N) ∧ wx.cell? ⟨p, 1, none⟩ = some (.slice av es.length c') ∧
  Own encE 3 40 wx w0.heap.size (.slice av es.length c') es ∧ (Value.slice av es.length c').ownBlock ≠ some p ∧ p < wx.heap.size ∧ Below w0.heap.size w0 wx
set_option maxRecDepth 100000 in
set_option maxHeartbeats 1000000 in
theorem rlong_any (n : Nat) (a : Option Addr) (cap : Nat) (es : List Ed) (w : World) (B : Nat) (hB : B ≤ w.heap.size) (hE : Row encE 3 w B a es) (hn1 : 1 ≤ n) (hn : n ≤ 64) (hl : es.length ≤ 600) (hes : Right n es) :
    Calls Try.prog 47 #[.agg #[.int .i64 (n : Int), .slice a es.length cap]] w (OwnBack encI 1 3 (LI n (longE n es)) n w) := by
  replace hes := hide hes
  go_enter Try.func47, Try.ntmps47
  go_upto_region 1 with fail
  obtain ⟨w0, h0⟩ : ∃ w0, w0 = w.alloc (.cells #[.int .i64 (n : Int), .slice a es.length cap] 32) := ⟨_, rfl⟩
  have hB0 : Below w.heap.size w w0 := by rw [h0]; exact (by repeat (first | with_reducible exact Below.refl _ _ | with_reducible assumption | with_reducible refine up_drewN ?_ | with_reducible refine up_drew ?_ | (with_reducible refine up_alloc ?_ ?_; rotate_left; (first | omega | (simp <;> omega) | simp)) | (with_reducible refine up_set ?_ ?_; rotate_left; (first | omega | (simp <;> omega) | simp)) | (with_reducible refine Below.trans ?_ (Below.mono (by with_reducible assumption) ?_); rotate_left; (first | omega | (simp <;> omega) | simp))))
  have hs0 : w0.heap.size = w.heap.size + 1 := by rw [h0]; simp
  have c0 : w0.cell? ⟨w.heap.size, 0, none⟩ = some (.int .i64 (n : Int)) := by rw [h0]; simp [go_sem]
  have c1 : w0.cell? ⟨w.heap.size, 1, none⟩ = some (.slice a es.length cap) := by rw [h0]; simp [go_sem]
  have hE0 := hide (hE.below hB0 hB)
  have key := hide (show ∀ w', Below w0.heap.size w0 w' → (Below w0.heap.size w0 w' ∧ w'.cell? ⟨w.heap.size, 0, none⟩ = some (.int .i64 (n : Int)) ∧ w'.cell? ⟨w.heap.size, 1, none⟩ = some (.slice a es.length cap) ∧ w0.heap.size ≤ w'.heap.size) from
    fun w' hb => ⟨hb, (hb.cell (by simp; omega)).trans c0, (hb.cell (by simp; omega)).trans c1, hb.size⟩)
  replace hs0 := hide hs0
  simp only [← h0]
  clear h0 c0 c1
  go_cut [3] (fun s3 wx => MidL (n : Int) es w0 s3 wx)
  case first =>
    go_region_held3 (fun w' => Below w0.heap.size w0 w' ∧ w'.cell? ⟨w.heap.size, 0, none⟩ = some (.int .i64 (n : Int)) ∧ w'.cell? ⟨w.heap.size, 1, none⟩ = some (.slice a es.length cap) ∧ w0.heap.size ≤ w'.heap.size)
      (first | exact key.out _ (below_drew _) | exact key.out _ (by assumption) | exact key.out _ (up_alloc_self (below_drew _)) | exact key.out _ (up_alloc_self (by assumption)) | exact key.out _ (long_set_up (And.left (by assumption)) (by simp <;> omega)) | exact key.out _ (long_set_up (long_set_up (And.left (by assumption)) (Nat.le_refl _)) (Nat.le_refl _)) | exact key.out _ (up_alloc_self (And.left (by assumption))))
      (first | (go_at_call 97; have hb4 := (‹_ ∧ _› : _ ∧ _).1; refine (cloneE a cap es _ w0.heap.size (Below.size hb4) ((hE0.out.mono (by have := hs0.out; omega)).below hb4 (Nat.le_refl _)) (by omega)).mono ?_; rintro e w4 ⟨av, c', rfl, own4, hb5⟩; have hb6 := below_step hb4 hb5; obtain ⟨hc4, hf4⟩ := bcell hb5))
    all_goals
      go_wp2_with fail
      go_meet
    · refine ⟨w4.heap.size, av, c', rfl, (by have h := hb5.size; simpa using h), by simp, by simp, own4.alloc _, ?_, by simp, (‹_ ∧ _› : _ ∧ _).1⟩
      · intro h; have := own4.block_lt _ h; omega
    · have hlt4 : w0.heap.size < w4.heap.size := by have h := hb5.size; simp at h; omega
      have hne : (Value.slice av es.length c').ownBlock ≠ some w0.heap.size := by intro h; have := own4.block_lt _ h; simp at this; omega
      refine ⟨w0.heap.size, av, c', rfl, Nat.le_refl _, by simp [go_sem, hc4], by simp [go_sem, hc4], ((own4.base_le (by simp)).elsewhere hne _).elsewhere hne _, hne, by simpa using hlt4, (‹_ ∧ _› : _ ∧ _).1⟩
  case rest =>
    obtain ⟨p, av, c', rfl, hp, p0, p1, own, hne, hplt, hbc⟩ := hcut
    have j0 := hs0.out
    have q1 : w.heap.size < w0.heap.size := by omega
    clear j0 key
    have own := hide own
    have hbc := hide hbc
    go_wp2
    go_loopw [4, 16] (fun _ i wr => ∃ k : Nat, k ≤ es.length ∧ i = .int .i64 k ∧ wr.cell? ⟨p, 0, none⟩ = some (.int .i64 (n : Int)) ∧ wr.cell? ⟨p, 1, none⟩ = some (.slice av es.length c') ∧
      Hid (Own encE 3 40 wr w0.heap.size (.slice av es.length c') (negs es k)) ∧ Hid (Below w0.heap.size w0 wr) ∧ p < wr.heap.size) (fun _ i _ => es.length - (intOf i).toNat)
    case atStart => exact ⟨0, Nat.zero_le _, rfl, p0, p1, by simpa [negs] using own, hbc, hplt⟩
    case round =>
      clear own hbc p0 p1 hplt
      obtain ⟨k, hk, rfl, p0, p1, own, hbr, hpl⟩ := hrel
      have hsz := hbr.out.size
      by_cases hlt : k < es.length
      · have hcc := hes.out _ (List.getElem_mem hlt)
        rcases own.out.form with ⟨_, hh⟩ | ⟨g, cg, hv, hg1, hg2, _⟩
        · have := negs_len es k hk; rw [hh] at this; simp at this; omega
        rw [negs_len es k hk] at hv
        simp only [Value.slice.injEq] at hv
        obtain ⟨rfl, _, rfl⟩ := hv
        have hkl : k < (negs es k).length := by rw [negs_len es k hk]; exact hlt
        obtain ⟨g0, g1, g2⟩ := own.out.getE k hkl
        rw [negs_get es k hlt hkl] at g0 g1 g2
        have gf := own.out.free
        have hgp : p ≠ g := by intro h; exact hne (by simp [Value.ownBlock, h])
        have hgp' : g ≠ p := fun h => hgp h.symm
        have i1 : (0 : Int) ≤ (k : Int) ∧ (k : Int) < (es.length : Int) := by omega
        have hp2 := hide (negs_put own.out hlt)
        obtain ⟨ec, hec⟩ : ∃ ec, ec = es[k].c := ⟨_, rfl⟩
        rw [← hec] at g2 hcc hp2
        replace hec := hide hec
        have hcc2 : -10000 ≤ ec ∧ ec ≤ 10000 := by omega
        have hwn : IntKind.i64.wrap (-ec) = -ec := IntWalk.i64_in _ (by omega)
        clear hcc g0 g1
        go_wp2
        go_region
        go_wp2
        go_roundw
        case rel =>
          refine ⟨k + 1, by omega, by go_num, ?_, ?_, ?_, ?_, ?_⟩
          · exact (by repeat (first | with_reducible assumption | with_reducible refine cu_drew ?_ | with_reducible refine cu_drewN ?_ | with_reducible refine cu_alloc ?_ | (with_reducible refine cu_set ?_ ?_; rotate_left; (first | with_reducible assumption | omega | (simp <;> omega) | simp)) | with_reducible refine fu_drew ?_ | with_reducible refine fu_drewN ?_ | with_reducible refine fu_alloc ?_ | with_reducible refine fu_set ?_))
          · exact (by repeat (first | with_reducible assumption | with_reducible refine cu_drew ?_ | with_reducible refine cu_drewN ?_ | with_reducible refine cu_alloc ?_ | (with_reducible refine cu_set ?_ ?_; rotate_left; (first | with_reducible assumption | omega | (simp <;> omega) | simp)) | with_reducible refine fu_drew ?_ | with_reducible refine fu_drewN ?_ | with_reducible refine fu_alloc ?_ | with_reducible refine fu_set ?_))
          · exact hide (Own.drew hp2.out)
          · exact hide (up_drew (up_set hbr.out hg1))
          · simp [go_sem]; omega
        case measure => simp [intOf]; omega
      · obtain rfl : k = es.length := by omega
        have hr := right_neg hes.out
        have hll : (es.map negEd).length = es.length := by simp
        have own2 : Own encE 3 40 wr w0.heap.size (.slice av es.length c') (es.map negEd) := by
          have h := own.out
          simpa only [negs, List.take_length, List.drop_length, List.append_nil] using h
        obtain ⟨a', c2, hv, hrow, -⟩ := own2.row lenE
        rw [hll] at hv
        injection hv with g1 g2 g3
        subst g1 g3
        have hC := hide (show ∀ w', Below wr.heap.size wr w' → Calls Try.prog 98 #[.agg #[.int .i64 (n : Int), .slice av es.length c']] w' (OwnBack encI 1 3 (LI n (lift n (es.map negEd))) n w') from fun w' hb => by
          have := rlift_own n av c' (es.map negEd) w' wr.heap.size hb.size (hrow.below hb (Nat.le_refl _)) hn1 hn (by rw [hll]; exact hl) hr
          rwa [hll] at this)
        have hlow := hide (show ∀ v, -10000000 ≤ lift n (es.map negEd) v ∧ lift n (es.map negEd) v ≤ 1099511627776 from fun v => by
          have h1 := spread_low (es := nes (es.map negEd)) (by omega) low_zero (nes_cost hr) (n - 1) v
          unfold FAR at h1
          unfold lift
          omega)
        have hbw := hide (hB0.trans (hbr.out.mono (by omega)))
        have hln := hide (show ∀ v, longE n es v = -(lift n (es.map negEd) v) from fun v => rfl)
        clear own2 hrow g2 own
        go_wp2_with fail
        refine (hC.out _ (Below.refl _ _)).mono ?_
        rintro e w5 ⟨a5, c5, rfl, own5, hb5⟩
        obtain ⟨F, hF⟩ : ∃ F, F = lift n (es.map negEd) := ⟨_, rfl⟩
        rw [← hF] at own5 hlow hln
        replace hF := hide hF
        obtain ⟨g5, rfl, hg51, hg52⟩ := own5.blockI' (by omega)
        have hbw5 := hide (hbw.out.trans (hb5.mono (by have := hbw.out.size; omega)))
        have hS0 := hide (show Own encI 1 3 w5 w.heap.size (.slice (some ⟨g5, 0, none⟩) n c5) (LI n (first 0 (fun v => -(F v)) F)) by rw [first_zero]; exact own5.base_le (by omega))
        have hwg : w.heap.size ≤ g5 := by omega
        clear own5 hb5 p0 p1 hC
        go_wp2
        go_loopw [6, 36] (fun _ i wr => ∃ k : Nat, k ≤ n ∧ i = .int .i64 k ∧ Hid (Own encI 1 3 wr w.heap.size (.slice (some ⟨g5, 0, none⟩) n c5) (LI n (first k (fun v => -(F v)) F))) ∧ Hid (Below w.heap.size w wr)) (fun _ i _ => n - (intOf i).toNat)
        case atStart => exact ⟨0, Nat.zero_le _, rfl, hS0, hbw5⟩
        case round =>
          clear hS0 hbw5
          obtain ⟨k, hk, rfl, own, hbr⟩ := hrel
          by_cases hlt : k < n
          · have cA := own.out.atI k hlt
            have fA := own.out.free k
            have lA := own.out.at_base.2
            have hx : first k (fun v => -(F v)) F k = F k := by simp [first]
            rw [hx] at cA
            have hxl := hlow.out k
            have hst := hide (own.out.setI k hlt (-(F k)))
            rw [first_step k (fun v => -(F v)) F] at hst
            obtain ⟨x, hxe⟩ : ∃ x, x = F k := ⟨_, rfl⟩
            rw [← hxe] at cA hxl hst
            replace hxe := hide hxe
            have i1 : (0 : Int) ≤ (k : Int) ∧ (k : Int) < (n : Int) := by omega
            have hwn : IntKind.i64.wrap (-x) = -x := IntWalk.i64_in _ (by omega)
            clear hx
            go_wp2
            go_roundw
            case rel => exact ⟨k + 1, by omega, by go_num, by first | exact hst | exact hide (Own.drew hst.out), by first | exact hide (up_set hbr.out hwg) | exact hide (up_drew (up_set hbr.out hwg))⟩
            case measure => simp [intOf]; omega
          · obtain rfl : n = k := by omega
            have hfin := hide (show LI n (first n (fun v => -(F v)) F) = LI n (longE n es) by rw [first_all]; exact li_congr fun v _ => (hln.out v).symm)
            go_wp2
            go_ret
            exact ⟨_, c5, rfl, by rw [← hfin.out]; exact own.out, hbr.out⟩
end Go.Proofs.Ytdpbkhempgghaaa

/-! The walk of felllaw.DagSays: it returns true. Conditions: the argument reads as data. -/
namespace Go.Proofs.Ytdpbkhempgghaaa
open Go.RowKit
set_option linter.unusedSimpArgs false
set_option linter.unusedVariables false
theorem order_cyc {n : Nat} {es : List Ed} {w w' : World} {e : Ending} (hc : (kahnE n es).length < n) (h : OrderAns n es w e w') : e = .returned (.tuple #[.slice none 0 0, .int .i64 6]) ∧ Below w.heap.size w w' := by
  obtain ⟨h1, ⟨_, h2⟩ | ⟨h2, _⟩⟩ := h
  · exact ⟨h2, h1⟩
  · omega
theorem order_fit {n : Nat} {es : List Ed} {w w' : World} {e : Ending} (hc : (kahnE n es).length = n) (h : OrderAns n es w e w') : ∃ a c, e = .returned (.tuple #[.slice a n c, .int .i64 0]) ∧ Own encI 1 3 w' w.heap.size (.slice a n c) (LN (kahnE n es)) ∧ Below w.heap.size w w' := by
  obtain ⟨h1, ⟨h2, _⟩ | ⟨_, v, h2, h3⟩⟩ := h
  · omega
  · obtain ⟨a, c, rfl⟩ := h3.shape (n := n) (by rw [ln_len, hc])
    exact ⟨a, c, h2, h3, h1⟩
theorem long_cyc {n : Nat} {es : List Ed} {w w' : World} {e : Ending} (hc : (kahnE n es).length < n) (h : LongAns n es w e w') : e = .returned (.tuple #[.slice none 0 0, .int .i64 6]) ∧ Below w.heap.size w w' := by
  obtain ⟨h1, ⟨_, h2⟩ | ⟨h2, _⟩⟩ := h
  · exact ⟨h2, h1⟩
  · omega
theorem long_fit {n : Nat} {es : List Ed} {w w' : World} {e : Ending} (hc : (kahnE n es).length = n) (h : LongAns n es w e w') : ∃ a c, e = .returned (.tuple #[.slice a n c, .int .i64 0]) ∧ Own encI 1 3 w' w.heap.size (.slice a n c) (LI n (longE n es)) ∧ Below w.heap.size w w' := by
  obtain ⟨h1, ⟨h2, _⟩ | ⟨_, v, h2, h3⟩⟩ := h
  · omega
  · obtain ⟨a, c, rfl⟩ := h3.shape (n := n) (by simp [LI])
    exact ⟨a, c, h2, h3, h1⟩
theorem own_rowI {w : World} {base : Nat} {e : TypeId} {a : Option Addr} {n c : Nat} {xs : List Int} (h : Own encI 1 e w base (.slice a n c) xs) : Row encI 1 w w.heap.size a xs := by
  obtain ⟨a', c', hv, hr, _⟩ := h.row lenI
  injection hv with g1 g2 g3
  subst g1
  exact hr
set_option maxRecDepth 100000 in
set_option maxHeartbeats 2000000 in
theorem walk_DagSays (x0 : Int) (a0 : Option Addr) (cap0 : Nat) (es0 : List Ed) (w : World) (b0 : Bd x0) (l0 : es0.length ≤ cap0) (m0 : cap0 ≤ maxLen) (r0 : Row encE 3 w w.heap.size a0 es0) (be0 : ∀ x ∈ es0, BdE x) :
    Calls Try.prog 9 #[.agg #[.int .i64 x0, .slice a0 es0.length cap0]] w fun e w' => e = .returned (.bool true) ∧ Below w.heap.size w w' := by
  have hl : es0.length ≤ 9223372036854775807 := by unfold maxLen at m0; omega
  replace r0 := hide r0
  by_cases h0 : netErr x0 es0 = 0
  · obtain ⟨n1, n2, n3, n4⟩ := netErr_ok h0
    obtain ⟨n, rfl⟩ := Int.eq_ofNat_of_zero_le (show 0 ≤ x0 by omega)
    have hC := hide (show ∀ w B, _ from fun w B hB hE => by have := rnet_any (n : Int) a0 cap0 es0 w B hB hE hl; rwa [h0] at this)
    have hes : Right n es0 := n4
    have hO := hide (fun w B hB hE => dorder_ok n a0 cap0 es0 w B hB hE hl h0)
    have hG := hide (fun w B hB hE => dlong_ok n a0 cap0 es0 w B hB hE hl h0)
    have hR := hide (fun w B hB hE => rorder_any n cap0 a0 es0 w B hB hE (by omega) n3 hes)
    have hT := hide (fun w B hB hE => rlong_any n a0 cap0 es0 w B hB hE (by omega) (by omega) n3 hes)
    have hkl := kahnE_len n es0
    clear h0 be0 n4 hes
    by_cases hc : (kahnE n es0).length < n
    · replace hc := hide hc
      clear hkl hT
      go_enter Try.func9, Try.ntmps9
      go_wp2_with fail
      refine (hO.out _ w.heap.size (by simp) (r0.out.below ((by repeat (first | with_reducible exact Below.refl _ _ | with_reducible assumption | with_reducible refine up_drewN ?_ | with_reducible refine up_drew ?_ | (with_reducible refine up_alloc ?_ ?_; rotate_left; (first | omega | (simp <;> omega) | simp)) | (with_reducible refine up_set ?_ ?_; rotate_left; (first | omega | (simp <;> omega) | simp)) | (with_reducible refine Below.trans ?_ (Below.mono (by with_reducible assumption) ?_); rotate_left; (first | omega | (simp <;> omega) | simp)))) : Below w.heap.size w _) (Nat.le_refl _))).mono ?_
      intro e w1 hA
      obtain ⟨rfl, hb1⟩ := order_cyc hc.out hA
      have k0 : w1.cell? ⟨w.heap.size, 0, none⟩ = some (.int .i64 (n : Int)) := cu_below hb1 (by simp [go_sem]) (by simp <;> omega)
      have k1 : w1.cell? ⟨w.heap.size, 1, none⟩ = some (.slice a0 es0.length cap0) := cu_below hb1 (by simp [go_sem]) (by simp <;> omega)
      have hz1 : w.heap.size < w1.heap.size := cell_lt k0
      have hbw1 := hide (show Below w.heap.size w w1 from (by repeat (first | with_reducible exact Below.refl _ _ | with_reducible assumption | with_reducible refine up_drewN ?_ | with_reducible refine up_drew ?_ | (with_reducible refine up_alloc ?_ ?_; rotate_left; (first | omega | (simp <;> omega) | simp)) | (with_reducible refine up_set ?_ ?_; rotate_left; (first | omega | (simp <;> omega) | simp)) | (with_reducible refine Below.trans ?_ (Below.mono (by with_reducible assumption) ?_); rotate_left; (first | omega | (simp <;> omega) | simp)))))
      clear hb1 hA hO
      go_wp2_with fail
      refine (hG.out _ w.heap.size (by omega) (r0.out.below hbw1.out (Nat.le_refl _))).mono ?_
      intro e w2 hA
      obtain ⟨rfl, hb2⟩ := long_cyc hc.out hA
      have k2 := cu_below hb2 k0 (by simp; omega)
      have k3 := cu_below hb2 k1 (by simp; omega)
      have hz2 : w.heap.size < w2.heap.size := cell_lt k2
      have hbw2 := hide (hbw1.out.trans (hb2.mono (by omega)))
      clear hb2 hA hG hbw1 k0 k1
      go_wp2_with fail
      refine (hC.out _ w.heap.size (by omega) (r0.out.below hbw2.out (Nat.le_refl _))).mono ?_
      rintro e w3 ⟨rfl, hb3⟩
      have k4 := cu_below hb3 k2 (by simp; omega)
      have k5 := cu_below hb3 k3 (by simp; omega)
      have hz3 : w.heap.size < w3.heap.size := cell_lt k4
      have hbw3 := hide (hbw2.out.trans (hb3.mono (by omega)))
      clear hb3 hC hbw2 k2 k3
      go_wp2_with fail
      refine (hR.out _ w.heap.size (by omega) (r0.out.below hbw3.out (Nat.le_refl _))).mono ?_
      intro e w4 hA
      obtain ⟨rfl, hb4⟩ := order_cyc hc.out hA
      have hbw4 := hide (hbw3.out.trans (hb4.mono (by omega)))
      clear hb4 hA hR hbw3 k4 k5
      go_wp2
      all_goals
        go_ret
        exact ⟨rfl, by first | exact hbw4.out | exact hbw4.out.drew | exact up_drewN hbw4.out⟩
    · have hc2 := hide (show (kahnE n es0).length = n by omega)
      clear hkl hc
      go_enter Try.func9, Try.ntmps9
      go_wp2_with fail
      refine (hO.out _ w.heap.size (by simp) (r0.out.below ((by repeat (first | with_reducible exact Below.refl _ _ | with_reducible assumption | with_reducible refine up_drewN ?_ | with_reducible refine up_drew ?_ | (with_reducible refine up_alloc ?_ ?_; rotate_left; (first | omega | (simp <;> omega) | simp)) | (with_reducible refine up_set ?_ ?_; rotate_left; (first | omega | (simp <;> omega) | simp)) | (with_reducible refine Below.trans ?_ (Below.mono (by with_reducible assumption) ?_); rotate_left; (first | omega | (simp <;> omega) | simp)))) : Below w.heap.size w _) (Nat.le_refl _))).mono ?_
      intro e w1 hA
      obtain ⟨a1, c1, rfl, own1, hb1⟩ := order_fit hc2.out hA
      have k0 : w1.cell? ⟨w.heap.size, 0, none⟩ = some (.int .i64 (n : Int)) := cu_below hb1 (by simp [go_sem]) (by simp <;> omega)
      have k1 : w1.cell? ⟨w.heap.size, 1, none⟩ = some (.slice a0 es0.length cap0) := cu_below hb1 (by simp [go_sem]) (by simp <;> omega)
      have hz1 : w.heap.size < w1.heap.size := cell_lt k0
      have hbw1 := hide (show Below w.heap.size w w1 from (by repeat (first | with_reducible exact Below.refl _ _ | with_reducible assumption | with_reducible refine up_drewN ?_ | with_reducible refine up_drew ?_ | (with_reducible refine up_alloc ?_ ?_; rotate_left; (first | omega | (simp <;> omega) | simp)) | (with_reducible refine up_set ?_ ?_; rotate_left; (first | omega | (simp <;> omega) | simp)) | (with_reducible refine Below.trans ?_ (Below.mono (by with_reducible assumption) ?_); rotate_left; (first | omega | (simp <;> omega) | simp)))))
      replace own1 := hide own1
      clear hb1 hA hO
      go_wp2_with fail
      refine (hG.out _ w.heap.size (by omega) (r0.out.below hbw1.out (Nat.le_refl _))).mono ?_
      intro e w2 hA
      obtain ⟨a2, c2, rfl, own2, hb2⟩ := long_fit hc2.out hA
      have k2 := cu_below hb2 k0 (by simp; omega)
      have k3 := cu_below hb2 k1 (by simp; omega)
      have hz2 : w.heap.size < w2.heap.size := cell_lt k2
      have hbw2 := hide (hbw1.out.trans (hb2.mono (by omega)))
      have o12 := hide (own1.out.stays hb2)
      replace own2 := hide own2
      clear hb2 hA hG hbw1 k0 k1 own1
      go_wp2_with fail
      refine (hC.out _ w.heap.size (by omega) (r0.out.below hbw2.out (Nat.le_refl _))).mono ?_
      rintro e w3 ⟨rfl, hb3⟩
      have k4 := cu_below hb3 k2 (by simp; omega)
      have k5 := cu_below hb3 k3 (by simp; omega)
      have hz3 : w.heap.size < w3.heap.size := cell_lt k4
      have hbw3 := hide (hbw2.out.trans (hb3.mono (by omega)))
      have o13 := hide (o12.out.stays hb3)
      have o23 := hide (own2.out.stays hb3)
      clear hb3 hC hbw2 k2 k3 o12 own2
      go_wp2_with fail
      refine (hR.out _ w.heap.size (by omega) (r0.out.below hbw3.out (Nat.le_refl _))).mono ?_
      intro e w4 hA
      obtain ⟨a4, c4, rfl, own4, hb4⟩ := order_fit hc2.out hA
      have k6 := cu_below hb4 k4 (by simp; omega)
      have k7 := cu_below hb4 k5 (by simp; omega)
      have hz4 : w.heap.size < w4.heap.size := cell_lt k6
      have hbw4 := hide (hbw3.out.trans (hb4.mono (by omega)))
      have o24 := hide (o23.out.stays hb4)
      have hE := hide (eqI a1 a4 c1 c4 n n (LN (kahnE n es0)) (LN (kahnE n es0)) w4 w4.heap.size w4.heap.size (by rw [ln_len, hc2.out]) (by rw [ln_len, hc2.out]) (own_rowI (o13.out.stays hb4)) (own_rowI own4) (by omega) (by omega) true (by simp))
      clear hb4 hA hR hbw3 k4 k5 o13 o23 own4
      go_wp2_with fail
      refine hE.out.mono ?_
      rintro e w5 ⟨rfl, nq, rfl⟩
      have hbw5 := hide (up_drewN hbw4.out (n := nq))
      have o25 := hide (o24.out.drewN nq)
      have k8 : (w4.drewN nq).cell? ⟨w.heap.size, 0, none⟩ = some (.int .i64 (n : Int)) := by rw [← k6]; simp [go_sem]
      have k9 : (w4.drewN nq).cell? ⟨w.heap.size, 1, none⟩ = some (.slice a0 es0.length cap0) := by rw [← k7]; simp [go_sem]
      obtain ⟨w5, hw5⟩ : ∃ w5, w5 = w4.drewN nq := ⟨_, rfl⟩
      rw [← hw5] at hbw5 o25 k8 k9
      simp only [← hw5]
      have hz5 : w.heap.size < w5.heap.size := cell_lt k8
      replace hw5 := hide hw5
      clear k6 k7 hE o24 hbw4
      go_wp2_with fail
      refine (hT.out _ w.heap.size (by omega) (r0.out.below hbw5.out (Nat.le_refl _))).mono ?_
      rintro e w6 ⟨a6, c6, rfl, own6, hb6⟩
      have hbw6 := hide (hbw5.out.trans (hb6.mono (by omega)))
      have hE := hide (eqI a2 a6 c2 c6 n n (LI n (longE n es0)) (LI n (longE n es0)) w6 w6.heap.size w6.heap.size (li_len _ _) (li_len _ _) (own_rowI (o25.out.stays hb6)) (own_rowI own6) (by omega) (by omega) true (by simp))
      clear hb6 own6 o25 hT
      go_wp2_with fail
      refine hE.out.mono ?_
      rintro e w7 ⟨rfl, nq2, rfl⟩
      go_wp2
      go_ret
      exact ⟨rfl, by first | exact up_drewN hbw6.out | exact (up_drewN hbw6.out).drew⟩
  · have hC := hide (fun w B hB hE => rnet_any x0 a0 cap0 es0 w B hB hE hl)
    have hO := hide (fun w B hB hE => dorder_bad x0 a0 cap0 es0 w B hB hE hl h0)
    have hG := hide (fun w B hB hE => dlong_bad x0 a0 cap0 es0 w B hB hE hl h0)
    have q0 : (netErr x0 es0 != 0) = true := by simp [h0]
    have q1 : (netErr x0 es0 == 0) = false := by simp [h0]
    clear h0 be0
    go_enter Try.func9, Try.ntmps9
    go_wp2_with fail
    refine (hO.out _ w.heap.size (by simp) (r0.out.below ((by repeat (first | with_reducible exact Below.refl _ _ | with_reducible assumption | with_reducible refine up_drewN ?_ | with_reducible refine up_drew ?_ | (with_reducible refine up_alloc ?_ ?_; rotate_left; (first | omega | (simp <;> omega) | simp)) | (with_reducible refine up_set ?_ ?_; rotate_left; (first | omega | (simp <;> omega) | simp)) | (with_reducible refine Below.trans ?_ (Below.mono (by with_reducible assumption) ?_); rotate_left; (first | omega | (simp <;> omega) | simp)))) : Below w.heap.size w _) (Nat.le_refl _))).mono ?_
    rintro e w1 ⟨rfl, hb1⟩
    have k0 : w1.cell? ⟨w.heap.size, 0, none⟩ = some (.int .i64 x0) := cu_below hb1 (by simp [go_sem]) (by simp <;> omega)
    have k1 : w1.cell? ⟨w.heap.size, 1, none⟩ = some (.slice a0 es0.length cap0) := cu_below hb1 (by simp [go_sem]) (by simp <;> omega)
    have hz1 : w.heap.size < w1.heap.size := cell_lt k0
    have hbw1 := hide (show Below w.heap.size w w1 from (by repeat (first | with_reducible exact Below.refl _ _ | with_reducible assumption | with_reducible refine up_drewN ?_ | with_reducible refine up_drew ?_ | (with_reducible refine up_alloc ?_ ?_; rotate_left; (first | omega | (simp <;> omega) | simp)) | (with_reducible refine up_set ?_ ?_; rotate_left; (first | omega | (simp <;> omega) | simp)) | (with_reducible refine Below.trans ?_ (Below.mono (by with_reducible assumption) ?_); rotate_left; (first | omega | (simp <;> omega) | simp)))))
    clear hb1 hO
    go_wp2_with fail
    refine (hG.out _ w.heap.size (by omega) (r0.out.below hbw1.out (Nat.le_refl _))).mono ?_
    rintro e w2 ⟨rfl, hb2⟩
    have k2 := cu_below hb2 k0 (by simp; omega)
    have k3 := cu_below hb2 k1 (by simp; omega)
    have hz2 : w.heap.size < w2.heap.size := cell_lt k2
    have hbw2 := hide (hbw1.out.trans (hb2.mono (by omega)))
    clear hb2 hG hbw1 k0 k1
    go_wp2_with fail
    refine (hC.out _ w.heap.size (by omega) (r0.out.below hbw2.out (Nat.le_refl _))).mono ?_
    rintro e w3 ⟨rfl, hb3⟩
    have hbw3 := hide (hbw2.out.trans (hb3.mono (by omega)))
    clear hb3 hC hbw2 k2 k3
    go_wp2
    all_goals
      go_ret
      exact ⟨rfl, by first | exact hbw3.out | exact hbw3.out.drew | exact up_drewN hbw3.out⟩
end Go.Proofs.Ytdpbkhempgghaaa
