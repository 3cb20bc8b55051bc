/-
  What the reference's Simple returns: all walks that come to no place twice, as lists of edges. Conditions: a right net of at most 12 edges, 6 places at most still to come to.
-/
import Derived.Test.YtcehdpeeaogpiaaSimP
import Derived.Test.YtcehdpeeaogpiaaYenC
import Derived.Test.YtcehdpeeaogpiaaClone
import Derived.Test.YtcehdpeeaogpiaaCopyN
import Derived.Test.YtcehdpeeaogpiaaROut
import Derived.Test.YtcehdpeeaogpiaaPushAll
import Derived.Test.YtcehdpeeaogpiaaQuietH
import Derived.Deep.LoopGhost
import Derived.Deep.DeepCutAuto
import Derived.Deep.RegionLaw
import Derived.BigRegion
namespace Go.Proofs.Ytcehdpeeaogpiaa
open Go.RowKit
set_option linter.unusedSimpArgs false
set_option linter.unusedVariables false
/-- a row of places or edges in memory, in blocks from A on, below B -/
def LRow (w : World) (A B : Nat) (v : Value) (r : List Nat) : Prop := ∃ a c, v = .slice a r.length c ∧ (a = none → c = 0) ∧ (∀ ad, a = some ad → A ≤ ad.block) ∧ Row encI 1 w B a (NI r)
/-- rows in memory -/
def LRows (w : World) (A B : Nat) (a : Option Addr) (rows : List (List Nat)) : Prop := ∀ i (h : i < rows.length), ∃ b o v, a = some ⟨b, o, none⟩ ∧ A ≤ b ∧ b < B ∧ w.cell? ⟨b, o + i, none⟩ = some v ∧ LRow w A B v rows[i]
theorem LRows.keep {S : Nat → Prop} {w w' : World} {A B : Nat} {a : Option Addr} {rows : List (List Nat)} (h : LRows w A B a rows) (k : Keep S w w') (hS : ∀ b, S b → b < A ∨ B ≤ b) : LRows w' A B a rows := by
  intro i hi
  obtain ⟨b, o, v, h1, h2, h3, h4, a2, c2, h5, h6, h7, h8⟩ := h i hi
  refine ⟨b, o, v, h1, h2, h3, k.cu h4 (fun e => (hS b e).elim (fun e => (by omega)) (fun e => (by omega))), a2, c2, h5, h6, h7, fun j hj => ?_⟩
  obtain ⟨b', o', e1, e2, e3⟩ := h8 j hj
  refine ⟨b', o', e1, e2, fun z u hz => k.cu (e3 z u hz) (fun e => ?_)⟩
  have := h7 _ e1
  simp only at this
  exact (hS b' e).elim (fun e => (by omega)) (fun e => (by omega))
theorem LRows.below {w w' : World} {A B C : Nat} {a : Option Addr} {rows : List (List Nat)} (h : LRows w A B a rows) (hb : Below C w w') (hB : B ≤ C) : LRows w' A B a rows :=
  h.keep (S := fun k => C ≤ k) (Keep.ofBelow hb (fun _ _ h => h)) (fun b hb2 => .inr (Nat.le_trans hB hb2))
theorem LRows.mono {w : World} {A A' B C : Nat} {a : Option Addr} {rows : List (List Nat)} (h : LRows w A B a rows) (hB : B ≤ C) (hA : A' ≤ A) : LRows w A' C a rows := by
  intro i hi
  obtain ⟨b, o, v, h1, h2, h3, h4, a2, c2, h5, h6, h7, h8⟩ := h i hi
  exact ⟨b, o, v, h1, by omega, by omega, h4, a2, c2, h5, h6, fun ad had => Nat.le_trans hA (h7 ad had), h8.mono hB⟩
/-- rows that a call makes one by one -/
def SOut (eo : TypeId) (w : World) (base : Nat) (v : Value) (ts : List S3) (rows : List (List Nat)) : Prop :=
  ts.length = rows.length ∧ Own encS 1 eo w base v ts ∧ ∀ i (h : i < rows.length), ∃ bi ci, ts[i]? = some ⟨some ⟨bi, 0, none⟩, rows[i].length, ci⟩ ∧ Row encI 1 w w.heap.size (some ⟨bi, 0, none⟩) (NI rows[i]) ∧ v.ownBlock ≠ some bi ∧ bi < w.heap.size ∧ base ≤ bi
theorem SOut.nil (eo : TypeId) (w : World) (base : Nat) : SOut eo w base (.slice none 0 0) [] [] := ⟨rfl, Own.nil _ _, fun i h => by cases h⟩
theorem SOut.stays {eo : TypeId} {w w' : World} {base : Nat} {v : Value} {ts : List S3} {rows : List (List Nat)} (h : SOut eo w base v ts rows) (hb : Below w.heap.size w w') : SOut eo w' base v ts rows := by
  refine ⟨h.1, h.2.1.stays hb, fun i hi => ?_⟩
  obtain ⟨bi, ci, h1, h2, h3, h4, h5⟩ := h.2.2 i hi
  exact ⟨bi, ci, h1, (h2.below hb (Nat.le_refl _)).mono hb.size, h3, Nat.lt_of_lt_of_le h4 hb.size, h5⟩
/-- behind the append of one more row -/
theorem SOut.push {eo : TypeId} {w w' : World} {base : Nat} {v v' : Value} {ts : List S3} {rows : List (List Nat)} (h : SOut eo w base v ts rows) {bi ci : Nat} {r : List Nat} (hr : Row encI 1 w w.heap.size (some ⟨bi, 0, none⟩) (NI r)) (hne : v.ownBlock ≠ some bi) (hlt : bi < w.heap.size) (hba : base ≤ bi) {o : Obj}
    (own : Own encS 1 eo w' base v' (ts ++ [⟨some ⟨bi, 0, none⟩, r.length, ci⟩])) (hg : (w.alloc o).grownBy w' v.ownBlock) (hat : ∀ k, v'.ownBlock = some k → v.ownBlock = some k ∨ w.heap.size ≤ k) : SOut eo w' base v' (ts ++ [⟨some ⟨bi, 0, none⟩, r.length, ci⟩]) (rows ++ [r]) := by
  have hsz : w.heap.size + 1 ≤ w'.heap.size := by have := hg.size; simpa using this
  have keep : ∀ (b : Nat) (xs : List Nat), b < w.heap.size → v.ownBlock ≠ some b → Row encI 1 w w.heap.size (some ⟨b, 0, none⟩) (NI xs) → Row encI 1 w' w'.heap.size (some ⟨b, 0, none⟩) (NI xs) := by
    intro b xs hb hvb hx i hi
    obtain ⟨b', o', e1, e2, e3⟩ := hx i hi
    refine ⟨b', o', e1, by omega, fun j u hu => ?_⟩
    simp only [Option.some.injEq, Addr.mk.injEq] at e1
    obtain ⟨rfl, rfl, _⟩ := e1
    exact hg.cell (cu_alloc (e3 j u hu)) (fun e => hvb e.symm)
  refine ⟨by simp [h.1], own, fun i hi => ?_⟩
  have away : ∀ b, b < w.heap.size → v.ownBlock ≠ some b → v'.ownBlock ≠ some b := by
    intro b hb hv e
    rcases hat b e with e2 | e2
    · exact hv e2
    · omega
  rcases Nat.lt_or_ge i rows.length with hlt2 | hge
  · obtain ⟨b, c, h1, h2, h3, h4, h5⟩ := h.2.2 i hlt2
    refine ⟨b, c, ?_, ?_, away b h4 h3, by omega, h5⟩
    · rw [List.getElem?_append_left (by rw [h.1]; exact hlt2), h1, List.getElem_append_left hlt2]
    · rw [List.getElem_append_left hlt2]; exact keep b _ h4 h3 h2
  · have : i = rows.length := by simp at hi; omega
    subst this
    refine ⟨bi, ci, ?_, ?_, away bi hlt hne, by omega, hba⟩
    · rw [List.getElem?_append_right (by rw [h.1]; exact Nat.le_refl _), h.1]; simp
    · rw [List.getElem_append_right (Nat.le_refl _)]
      simp only [Nat.sub_self, List.getElem_cons_zero]
      exact keep bi r hlt hne hr
theorem SOut.rows {eo : TypeId} {w : World} {base : Nat} {a : Option Addr} {n c : Nat} {ts : List S3} {rows : List (List Nat)} (h : SOut eo w base (.slice a n c) ts rows) : LRows w base w.heap.size a rows := by
  intro i hi
  obtain ⟨bi, ci, h1, h2, h3, h4, h5⟩ := h.2.2 i hi
  have hi' : i < ts.length := by rw [h.1]; exact hi
  rcases h.2.1.form with ⟨_, e⟩ | ⟨g, cap, e, hg, _⟩
  · rw [e] at hi'; cases hi'
  · have hown := h.2.1
    rw [e] at hown
    simp only [Value.slice.injEq] at e
    obtain ⟨rfl, _, _⟩ := e
    have hc := hown.get lenS i hi' 0 (.slice (some ⟨bi, 0, none⟩) rows[i].length ci) (by
      rw [List.getElem?_eq_getElem hi'] at h1
      rw [Option.some.inj h1]
      rfl)
    refine ⟨g, 0, .slice (some ⟨bi, 0, none⟩) rows[i].length ci, rfl, hg, hown.at_base.2, by simpa using hc, some ⟨bi, 0, none⟩, ci, rfl, fun h => (by cases h), fun ad had => (by cases had; exact h5), h2⟩
theorem simF_row {es : List Ed} {t : Nat} : ∀ (f u : Nat) (seen : List Nat) (l : List Nat), l ∈ simF es t f u seen → l.length ≤ f
  | 0, u, seen, l, h => by
    unfold simF at h
    split at h
    · simp at h; subst h; exact Nat.le_refl _
    · cases h
  | f + 1, u, seen, l, h => by
    unfold simF at h
    split at h
    · simp at h; subst h; simp
    · obtain ⟨i, _, hi⟩ := List.mem_flatMap.1 h
      split at hi
      · obtain ⟨r, hr, rfl⟩ := List.mem_map.1 hi
        have := simF_row f _ _ r hr
        simp
        omega
      · cases hi
/-- rows handed back -/
def SBack (rows : List (List Nat)) (w : World) (e : Ending) (w' : World) : Prop := ∃ a c, e = .returned (.slice a rows.length c) ∧ LRows w' w.heap.size w'.heap.size a rows ∧ Below w.heap.size w w'
/-- what edge number i adds -/
def simStep (es : List Ed) (t f u : Nat) (seen : List Nat) (i : Nat) : List (List Nat) := if (edN es i).u = (u : Int) ∧ (edN es i).v.toNat ∉ seen ∧ (edN es i).v ≠ (u : Int) then (simF es t f (edN es i).v.toNat (seen ++ [u])).map (i :: ·) else []
theorem simF_go {es : List Ed} {t f u : Nat} {seen : List Nat} (h : u ≠ t) : simF es t (f + 1) u seen = (List.range es.length).flatMap (simStep es t f u seen) := by
  rw [simF, if_neg h]
  rfl
theorem range_flat {α : Type} (k : Nat) (g : Nat → List α) : (List.range (k + 1)).flatMap g = (List.range k).flatMap g ++ g k := by
  rw [List.range_succ, List.flatMap_append]
  simp
theorem simStep_len (es : List Ed) (t f u : Nat) (seen : List Nat) (i B : Nat) (h : ∀ v s, (simF es t f v s).length ≤ B) : (simStep es t f u seen i).length ≤ B := by
  unfold simStep
  split
  · rw [List.length_map]; exact h _ _
  · simp
theorem flat_len_le {α : Type} (g : Nat → List α) (B : Nat) (h : ∀ i, (g i).length ≤ B) : ∀ k, ((List.range k).flatMap g).length ≤ k * B
  | 0 => by simp
  | k + 1 => by
    have := flat_len_le g B h k
    have := h k
    rw [range_flat, List.length_append, Nat.succ_mul]
    omega
theorem simF_len {es : List Ed} {t : Nat} (hE : es.length ≤ 12) : ∀ (f u : Nat) (seen : List Nat), (simF es t f u seen).length ≤ 12 ^ f
  | 0, u, seen => by unfold simF; split <;> simp
  | f + 1, u, seen => by
    by_cases h : u = t
    · unfold simF
      rw [if_pos h]
      exact Nat.pow_pos (by omega)
    · rw [simF_go h]
      have h1 := flat_len_le (simStep es t f u seen) (12 ^ f) (fun i => simStep_len es t f u seen i _ (simF_len hE f)) es.length
      refine Nat.le_trans h1 ?_
      rw [Nat.pow_succ, Nat.mul_comm]
      exact Nat.mul_le_mul_left _ hE
theorem part_len {es : List Ed} {t f u : Nat} {seen : List Nat} (hE : es.length ≤ 12) (hf : f ≤ 5) (k : Nat) (hk : k ≤ 12) : ((List.range k).flatMap (simStep es t f u seen)).length ≤ 2985984 := by
  have h1 := flat_len_le (simStep es t f u seen) (12 ^ f) (fun i => simStep_len es t f u seen i _ (simF_len hE f)) k
  have h2 : 12 ^ f ≤ 12 ^ 5 := Nat.pow_le_pow_right (by omega) hf
  have h3 : k * 12 ^ f ≤ 12 * 12 ^ 5 := Nat.mul_le_mul hk h2
  omega
theorem own_litY (w : World) (t : TypeId) (base : Nat) (hb : base ≤ w.heap.size) (x : Int) : Own encI 1 t (w.alloc (.cells #[.int .i64 x] t)) base (.slice (some ⟨w.heap.size, 0, none⟩) 1 1) [x] :=
  Own.ofBlock lenI (cur := [.int .i64 x]) hb rfl (by show (w.heap.push _)[w.heap.size]? = _; simp) (Nat.le_refl _) (by unfold maxLen; omega) rfl rfl
theorem own_rowI {e : TypeId} {w : World} {base n c : Nat} {a : Option Addr} {xs : List Int} (h : Own encI 1 e w base (.slice a n c) xs) : Row encI 1 w w.heap.size a xs := by
  obtain ⟨a', c', hv, hr, _⟩ := h.row lenI
  injection hv with q1 q2 q3
  subst q1
  exact hr
set_option maxRecDepth 100000 in
set_option maxHeartbeats 4000000 in
theorem rsimple_any (n : Nat) (a : Option Addr) (cap : Nat) (es : List Ed) (t : Nat) (hes : Right n es) (hE12 : es.length ≤ 12) (hn : n ≤ 6) (f : Nat) : ∀ (u : Nat) (seen : List Nat) (sa : Option Addr) (m cs : Nat) (w : World) (B : Nat), B ≤ w.heap.size → Row encE 3 w B a es → u < n → seen.length = m → seen.Nodup → (∀ v ∈ seen, v < n) → u ∉ seen → n ≤ m + f → f ≤ 6 → Row encI 1 w w.heap.size sa (NI seen) → (sa = none → cs = 0) →
    Calls Try.prog 154 #[.agg #[.int .i64 (n : Int), .slice a es.length cap], .int .i64 (u : Int), .int .i64 (t : Int), .slice sa m cs] w (SBack (simF es t f u seen) w) := by
  induction f with
  | zero =>
    intro u seen sa m cs w B _ _ hu hm hd hs hus hl
    exfalso
    have := nodup_fits0 (n := n) (u :: seen) (List.nodup_cons.2 ⟨hus, hd⟩) (fun v hv => by
      rcases List.mem_cons.1 hv with rfl | hv
      · exact hu
      · exact hs v hv)
    simp at this
    omega
  | succ f ih =>
    intro u seen sa m cs w B hB hE hu hm hd hs hus hl hf hR hcs
    have hm6 : m + 1 ≤ 6 := by
      have := nodup_fits0 (n := n) (u :: seen) (List.nodup_cons.2 ⟨hus, hd⟩) (fun v hv => by
        rcases List.mem_cons.1 hv with rfl | hv
        · exact hu
        · exact hs v hv)
      simp at this
      omega
    by_cases hut : u = t
    · have hq : ((u : Int) == (t : Int)) = true := by simp [hut]
      have hr : simF es t (f + 1) u seen = [[]] := by unfold simF; rw [if_pos hut]
      rw [hr]
      clear ih hr
      replace hut := hide hut
      go_enter Try.func154, Try.ntmps154
      go_wp2
      go_ret
      refine ⟨_, _, rfl, fun i hi => ?_, (by repeat (first | with_reducible exact Below.refl _ _ | with_reducible assumption | with_reducible refine up_drewN ?_ | with_reducible refine up_drew ?_ | (with_reducible refine up_alloc ?_ ?_; rotate_left; (first | omega | (simp <;> omega) | simp)) | (with_reducible refine up_set ?_ ?_; rotate_left; (first | omega | (simp <;> omega) | simp)) | (with_reducible refine Below.trans ?_ (Below.mono (by with_reducible assumption) ?_); rotate_left; (first | omega | (simp <;> omega) | simp))))⟩
      obtain rfl : i = 0 := by simp at hi; exact hi
      exact ⟨_, 0, .slice none 0 0, rfl, by simp, by simp, by simp [go_sem], none, 0, rfl, fun _ => rfl, fun _ h => (by cases h), Row.nil _ _ _ _ _⟩
    · have hq : ((u : Int) == (t : Int)) = false := by simp; omega
      have hsim := hide (simF_go (es := es) (f := f) (seen := seen) hut)
      replace hut := hide hut
      have hIH := hide (fun (v : Nat) (hv : v < n) (hvs : v ∉ seen) (hvu : v ≠ u) (w' : World) (a2 : Option Addr) (c2 : Nat) (hb : Below w.heap.size w w') (hr : Row encI 1 w' w'.heap.size a2 (NI (seen ++ [u]))) (hc : a2 = none → c2 = 0) =>
        ih v (seen ++ [u]) a2 (m + 1) c2 w' B (by have := hb.size; omega) (hE.below hb hB) hv (by rw [List.length_append, hm]; rfl) (List.nodup_append.2 ⟨hd, by simp, fun a ha b hb e => by simp at hb; subst e; subst hb; exact hus ha⟩) (fun x hx => by
          rcases List.mem_append.1 hx with hx | hx
          · exact hs x hx
          · simp at hx; omega) (fun h => by
          rcases List.mem_append.1 h with h | h
          · exact hvs h
          · simp at h; exact hvu h) (by omega) (by omega) hr hc)
      have hCt := hide (fun (y : Int) (w' : World) (hb : Below w.heap.size w w') (tt : Bool) (htt : tt = decide (y ∈ NI seen)) => (show Calls Try.prog 114 #[.slice sa m cs, .int .i64 y] w' (fun e w'' => e = .returned (.bool tt) ∧ w'' = w') from by
        rw [htt]
        exact contI_any y sa cs m (NI seen) w' w.heap.size (by rw [ni_len]; exact hm) (hR.below hb (Nat.le_refl _)) (by omega)))
      have hCl := hide (fun (w' : World) (hb : Below w.heap.size w w') => cloneI sa cs m (NI seen) w' w.heap.size hb.size (by rw [ni_len]; exact hm) (hR.below hb (Nat.le_refl _)) (by omega))
      have hpl := hide (part_len (t := t) (f := f) (u := u) (seen := seen) hE12 (by omega))
      replace hE := hide hE
      replace hes := hide hes
      replace hR := hide hR
      replace hm := hide hm
      clear ih hd hs hus
      go_enter Try.func154, Try.ntmps154
      go_wp2_with fail
      go_loopg [9, 21] (es.length + 1) (fun gk s9 s21 wr => ∃ (k : Nat) (p : Nat) (ao : Option Addr) (co : Nat) (ts : List S3), s21 = .int .i64 k ∧ s9 = .slice ao p co ∧ k ≤ es.length ∧ es.length - k ≤ gk ∧ Hid (((List.range k).flatMap (simStep es t f u seen)).length = p) ∧ Hid (SOut 29 wr (w.heap.size + 1) (.slice ao p co) ts ((List.range k).flatMap (simStep es t f u seen))) ∧ Hid (Below w.heap.size w wr) ∧ wr.cell? ⟨w.heap.size, 0, none⟩ = some (.int .i64 n) ∧ wr.cell? ⟨w.heap.size, 1, none⟩ = some (.slice a es.length cap))
      case atStart => exact ⟨0, 0, none, 0, [], rfl, rfl, by omega, by omega, hide rfl, hide (SOut.nil _ _ _), hide (by repeat (first | with_reducible exact Below.refl _ _ | with_reducible assumption | with_reducible refine up_drewN ?_ | with_reducible refine up_drew ?_ | (with_reducible refine up_alloc ?_ ?_; rotate_left; (first | omega | (simp <;> omega) | simp)) | (with_reducible refine up_set ?_ ?_; rotate_left; (first | omega | (simp <;> omega) | simp)) | (with_reducible refine Below.trans ?_ (Below.mono (by with_reducible assumption) ?_); rotate_left; (first | omega | (simp <;> omega) | simp)))), by simp [go_sem], by simp [go_sem]⟩
      case round =>
        obtain ⟨k, p, ao, co, ts, rfl, rfl, hk, hgk, hp, hO, hb, x0, x1⟩ := hrel
        obtain ⟨wq, rfl⟩ : ∃ wq : World, wq = wr := ⟨_, rfl⟩
        have hz := hb.out.size
        have xz := cell_lt x0
        simp only at xz
        by_cases hlt : k < es.length
        · have hrr := hide (hes.out (edN es k) (edN_mem hlt))
          obtain ⟨b, o, rfl, hbB2, d0, d1, d2⟩ := (hE.out.below hb.out hB).ed k hlt
          have hex : es[k] = edN es k := by unfold edN; rw [List.getD, List.getElem?_eq_getElem hlt]; rfl
          rw [hex] at d0 d1 d2
          obtain ⟨xu, hxu⟩ : ∃ z, z = (edN es k).u := ⟨_, rfl⟩
          obtain ⟨xv, hxv⟩ : ∃ z, z = (edN es k).v := ⟨_, rfl⟩
          obtain ⟨xc, hxc⟩ : ∃ z, z = (edN es k).c := ⟨_, rfl⟩
          have hst := hide (show simStep es t f u seen k = if xu = (u : Int) ∧ xv.toNat ∉ seen ∧ xv ≠ (u : Int) then (simF es t f xv.toNat (seen ++ [u])).map (k :: ·) else [] by rw [hxu, hxv]; rfl)
          have hvr : 0 ≤ xv ∧ xv < (n : Int) := by have := hrr.out; rw [hxv]; omega
          rw [← hxu] at d0
          rw [← hxv] at d1
          rw [← hxc] at d2
          clear hex hrr
          replace hxu := hide hxu
          replace hxv := hide hxv
          replace hxc := hide hxc
          obtain ⟨tv, rfl⟩ := Int.eq_ofNat_of_zero_le hvr.1
          rw [Int.toNat_natCast] at hst
          have hnext := hide (range_flat k (simStep es t f u seen))
          have hbl : b < wq.heap.size := by omega
          have ik : (0 : Int) ≤ (k : Int) ∧ (k : Int) < (es.length : Int) := by omega
          have hwk : IntKind.i64.wrap ((k : Int) + 1) = (k : Int) + 1 := by rw [IntKind.wrap_i64]; omega
          obtain ⟨wA, hwA⟩ : ∃ wA, wA = wq.alloc (.cells #[.int .i64 xu, .int .i64 (tv : Int), .int .i64 xc] 34) := ⟨_, rfl⟩
          have hbA : Below wq.heap.size wq wA := by rw [hwA]; exact up_alloc (Below.refl _ _) (Nat.le_refl _)
          have hbwA := hide (hb.out.trans (hbA.mono hz))
          have hOA := hide (hO.out.stays hbA)
          have A0 : wA.cell? ⟨wq.heap.size, 0, none⟩ = some (.int .i64 xu) := by rw [hwA]; simp [go_sem]
          have A1 : wA.cell? ⟨wq.heap.size, 1, none⟩ = some (.int .i64 (tv : Int)) := by rw [hwA]; simp [go_sem]
          have zA := cell_lt A0
          simp only at zA
          have X0 := cu_below hbA x0 xz
          have X1 := cu_below hbA x1 xz
          have zX := cell_lt X0
          simp only at zX
          obtain ⟨tt, htt⟩ : ∃ tt, tt = decide ((tv : Int) ∈ NI seen) := ⟨_, rfl⟩
          have hCt2 := hide (hCt.out (tv : Int) wA hbwA.out tt htt)
          have htm := hide (show tt = true ↔ tv ∈ seen from by
            rw [htt, decide_eq_true_eq]
            unfold NI
            rw [List.mem_map]
            constructor
            · rintro ⟨y, hy, h⟩
              have : y = tv := by omega
              rwa [← this]
            · intro h; exact ⟨tv, h, rfl⟩)
          replace htt := hide htt
          have skip : Hid (simStep es t f u seen k = [] → SOut 29 wA (w.heap.size + 1) (.slice ao p co) ts ((List.range (k + 1)).flatMap (simStep es t f u seen)) ∧ ((List.range (k + 1)).flatMap (simStep es t f u seen)).length = p) := hide (fun h => by rw [hnext.out, h, List.append_nil]; exact ⟨hOA.out, hp.out⟩)
          have hcase : ((xu != (u : Int)) = true) ∨ ((xu != (u : Int)) = false ∧ tt = true) ∨ ((xu != (u : Int)) = false ∧ tt = false ∧ ((tv : Int) == (u : Int)) = true) ∨ ((xu != (u : Int)) = false ∧ tt = false ∧ ((tv : Int) == (u : Int)) = false) := by
            cases (xu != (u : Int)) <;> cases tt <;> cases ((tv : Int) == (u : Int)) <;> simp
          rcases hcase with q1 | ⟨q1, rfl⟩ | ⟨q1, rfl, q3⟩ | ⟨q1, rfl, q3⟩
          · have hs1 := skip.out (by rw [hst.out, if_neg]; rintro ⟨h, _⟩; simp [h] at q1)
            replace hs1 := hide hs1
            clear hO hOA hCt2
            go_wp2
            simp only [← hwA]
            go_roundg (gk - 1)
            case measure => omega
            case rel => exact ⟨k + 1, p, ao, co, ts, by go_num, rfl, by omega, by omega, hide hs1.out.2, hide hs1.out.1, hbwA, X0, X1⟩
          · have hs1 := skip.out (by rw [hst.out, if_neg]; rintro ⟨_, h, _⟩; exact h (htm.out.1 rfl))
            replace hs1 := hide hs1
            clear hO hOA
            go_wp2_with fail
            simp only [← hwA]
            replace hwA := hide hwA
            refine hCt2.out.mono ?_
            rintro e w1 ⟨rfl, rfl⟩
            go_wp2
            go_roundg (gk - 1)
            case measure => omega
            case rel => exact ⟨k + 1, p, ao, co, ts, by go_num, rfl, by omega, by omega, hide hs1.out.2, hide hs1.out.1, hbwA, X0, X1⟩
          · have hs1 := skip.out (by rw [hst.out, if_neg]; rintro ⟨_, _, h⟩; simp at q3; omega)
            replace hs1 := hide hs1
            clear hO hOA
            go_wp2_with fail
            simp only [← hwA]
            replace hwA := hide hwA
            refine hCt2.out.mono ?_
            rintro e w1 ⟨rfl, rfl⟩
            go_wp2
            go_roundg (gk - 1)
            case measure => omega
            case rel => exact ⟨k + 1, p, ao, co, ts, by go_num, rfl, by omega, by omega, hide hs1.out.2, hide hs1.out.1, hbwA, X0, X1⟩
          · have hs2 := hide (show simStep es t f u seen k = (simF es t f tv (seen ++ [u])).map (k :: ·) by
              rw [hst.out, if_pos]
              refine ⟨by simpa using q1, fun h => ?_, by simpa using q3⟩
              have := htm.out.2 h
              cases this)
            have hvs : tv ∉ seen := fun h => by have := htm.out.2 h; cases this
            have hvu : tv ≠ u := by simp at q3; omega
            have hIH2 := hide (hIH.out tv (by omega) hvs hvu)
            replace hvs := hide hvs
            replace hvu := hide hvu
            clear hO skip
            go_wp2_with fail
            simp only [← hwA]
            replace hwA := hide hwA
            refine hCt2.out.mono ?_
            rintro e w1 ⟨rfl, rfl⟩
            go_upto_region 8 with fail
            have hzw := hbwA.out.size
            obtain ⟨L, hL⟩ : ∃ L, L = (simF es t f tv (seen ++ [u])).length := ⟨_, rfl⟩
            have hLb : L ≤ 2985984 := by
              rw [hL]
              refine Nat.le_trans (simF_len hE12 f tv _) ?_
              exact Nat.le_trans (Nat.pow_le_pow_right (by omega) (show f ≤ 5 by omega)) (by omega)
            go_cut [51, 52, 53] (fun s51 s52 s53 wx => ∃ (ax : Option Addr) (cx : Nat), s51 = .slice ax L cx ∧ s52 = .int .i64 L ∧ s53 = .int .i64 0 ∧ Hid (LRows wx w1.heap.size wx.heap.size ax (simF es t f tv (seen ++ [u]))) ∧ Hid (Below w1.heap.size w1 wx))
            case first =>
              replace hL := hide hL
              clear hOA
              go_region_law (first
                | (go_simp; go_at_call 22; refine (hCl.out _ (by first | exact up_drew hbwA.out | exact up_drew (up_alloc hbwA.out hzw))).mono ?_; rintro e wC ⟨a1, c1, rfl, own1, hbC⟩; (try have hlit := hide (((own_litY w1 3 w1.heap.size (Nat.le_refl _) (u : Int)).drew).stays hbC)); have hbC1 : Below w1.heap.size w1 wC := (by first | exact (up_drew (Below.refl w1.heap.size w1)).trans (hbC.mono (by simp)) | exact (up_drew (up_alloc (Below.refl w1.heap.size w1) (Nat.le_refl _))).trans (hbC.mono (by simp))); have hzC := hbC1.size; have A1c := cu_below hbC1 A1 zA; have X0c := cu_below hbC1 X0 zX; have X1c := cu_below hbC1 X1 zX; have zAc := cell_lt A1c; have zXc := cell_lt X0c; replace own1 := hide (own1.base_le (base' := w1.heap.size) (by simp)); clear hbC; replace hbC1 := hide hbC1)
                | (refine step_pushAll (e := 3) (enc := encI) (xs := NI seen) (v := .slice a1 m c1) (base := w1.heap.size) rfl (.tmp 47) (.tmp 49) 29 rfl _ 8 Try.underlying29 info_int rfl ?z0 lenI oneI m ?z1 rfl ?z2 (wC.heap.size) (some ⟨w1.heap.size, 0, none⟩) 1 1 [(u : Int)] rfl rfl ?z3 ?z4 ?z5 ?z6 ?_; (case z0 => omega); (case z1 => rw [ni_len]; exact hm.out); (case z2 => exact own1.out); (case z3 => exact own_rowI hlit.out); (case z4 => omega); (case z5 => unfold maxLen; omega); (case z6 => first | omega | (simp; omega)); intro a2 c2 w2 own2 hb2 hg2; have hb12 : Below w1.heap.size w1 w2 := (hbC1.out.trans hb2); have A1d := cu_below hb12 A1 zA; have X0d := cu_below hb12 X0 zX; have X1d := cu_below hb12 X1 zX; have zAd := cell_lt A1d; have zXd := cell_lt X0d; have hbX := hide (hbwA.out.trans (hb12.mono hzw)); have hrX := hide (show Row encI 1 w2 w2.heap.size a2 (NI (seen ++ [u])) from by rw [show NI (seen ++ [u]) = NI seen ++ [(u : Int)] by simp [NI]]; exact own_rowI own2); have hcX := hide (show a2 = none → c2 = 0 from fun h => by obtain ⟨g9, h9, _⟩ := own2.blockI (show 0 < m + 1 by omega); rw [h] at h9; cases h9); replace hb12 := hide hb12; clear own2 hb2 hg2 own1)
                | (refine step_pushAll (e := 3) (enc := encI) (xs := NI seen) (v := .slice a1 m c1) (base := w1.heap.size) rfl (.tmp 47) (.tmp 49) 29 rfl _ 8 Try.underlying29 info_int rfl ?z0 lenI oneI m ?z1 rfl ?z2 ((wC.alloc (.cells #[.int .i64 (u : Int)] 3)).heap.size) (some ⟨wC.heap.size, 0, none⟩) 1 1 [(u : Int)] rfl rfl ?z3 ?z4 ?z5 ?z6 ?_; (case z0 => omega); (case z1 => rw [ni_len]; exact hm.out); (case z2 => exact own1.out.alloc _); (case z3 => exact own_rowI (own_litY wC 3 w1.heap.size hzC (u : Int))); (case z4 => omega); (case z5 => unfold maxLen; omega); (case z6 => first | omega | (simp; omega)); intro a2 c2 w2 own2 hb2 hg2; have hb12 : Below w1.heap.size w1 w2 := (hbC1.out.trans (unalloc hb2 hzC)); have A1d := cu_below hb12 A1 zA; have X0d := cu_below hb12 X0 zX; have X1d := cu_below hb12 X1 zX; have zAd := cell_lt A1d; have zXd := cell_lt X0d; have hbX := hide (hbwA.out.trans (hb12.mono hzw)); have hrX := hide (show Row encI 1 w2 w2.heap.size a2 (NI (seen ++ [u])) from by rw [show NI (seen ++ [u]) = NI seen ++ [(u : Int)] by simp [NI]]; exact own_rowI own2); have hcX := hide (show a2 = none → c2 = 0 from fun h => by obtain ⟨g9, h9, _⟩ := own2.blockI (show 0 < m + 1 by omega); rw [h] at h9; cases h9); replace hb12 := hide hb12; clear own2 hb2 hg2 own1)
                | (go_simp; go_at_call 154; refine (hIH2.out _ _ _ hbX.out hrX.out hcX.out).mono ?_; rintro e wD ⟨ax, cx, rfl, hrows, hbD⟩; replace hrows := hide (hrows.mono (A' := w1.heap.size) (Nat.le_refl _) hb12.out.size); have hb1D := hide (hb12.out.trans (hbD.mono hb12.out.size)); clear hbD))
              all_goals
                go_wp2_with fail
                rw [← hL.out]
                go_meet
                case rel => exact ⟨ax, cx, rfl, rfl, rfl, hrows, hb1D⟩
            case rest =>
              obtain ⟨ax, cx, rfl, rfl, rfl, hrows, hbx⟩ := hcut
              have hOx := hide (hOA.out.stays hbx.out)
              have X0x := cu_below hbx.out X0 zX
              have X1x := cu_below hbx.out X1 zX
              have zXx := cell_lt X0x
              simp only at zXx
              have hbwx := hide (hbwA.out.trans (hbx.out.mono hzw))
              have hpl2 := hide (fun (i : Nat) (hi : i ≤ L) => (show ((List.range k).flatMap (simStep es t f u seen) ++ ((simF es t f tv (seen ++ [u])).take i).map (k :: ·)).length = p + i from by
                rw [List.length_append, hp.out, List.length_map, List.length_take]; omega))
              have hpb : p + L ≤ 2985984 := by
                have h1 := hpl.out (k + 1) (by omega)
                rw [range_flat, List.length_append, hp.out, hs2.out, List.length_map] at h1
                omega
              replace hL := hide hL
              have hob := hide (fun kk (hkk : (Value.slice ao (p + 0) co).ownBlock = some kk) => (show kk < w1.heap.size ∨ wc.heap.size ≤ kk from .inl (hOA.out.2.1.block_lt kk hkk).2))
              clear hOA A0 A1
              go_wp2_with fail
              go_loopw [9, 53] (fun s9 s53 wr => ∃ (i : Nat) (ao : Option Addr) (co : Nat) (ts : List S3), s53 = .int .i64 i ∧ s9 = .slice ao (p + i) co ∧ i ≤ L ∧ Hid (SOut 29 wr (w.heap.size + 1) (.slice ao (p + i) co) ts ((List.range k).flatMap (simStep es t f u seen) ++ ((simF es t f tv (seen ++ [u])).take i).map (k :: ·))) ∧ Hid (Below w.heap.size w wr) ∧ Hid (LRows wr w1.heap.size wc.heap.size ax (simF es t f tv (seen ++ [u]))) ∧ Hid (∀ kk, (Value.slice ao (p + i) co).ownBlock = some kk → kk < w1.heap.size ∨ wc.heap.size ≤ kk) ∧ wc.heap.size ≤ wr.heap.size ∧ wr.cell? ⟨w.heap.size, 0, none⟩ = some (.int .i64 n) ∧ wr.cell? ⟨w.heap.size, 1, none⟩ = some (.slice (some ⟨b, o, none⟩) es.length cap)) (fun _ s53 _ => L - (intOf s53).toNat)
              case atStart => exact ⟨0, ao, co, ts, rfl, by simp, by omega, hide (by simpa using hOx.out), hbwx, hrows, hob, Nat.le_refl _, X0x, X1x⟩
              case round =>
                clear hOx hrows hbx hbwx X0x X1x zXx
                obtain ⟨i, ao, co, ts, rfl, rfl, hi, hO, hb, hrows, hob, hzr, x0, x1⟩ := hrel
                have xz := cell_lt x0
                simp only at xz
                have hwi : IntKind.i64.wrap ((i : Int) + 1) = (i : Int) + 1 := by rw [IntKind.wrap_i64]; omega
                by_cases hlt2 : i < L
                · obtain ⟨l, hlr⟩ : ∃ l, l = (simF es t f tv (seen ++ [u]))[i]'(by rw [← hL.out]; exact hlt2) := ⟨_, rfl⟩
                  have hrow := hrows.out i (by rw [← hL.out]; exact hlt2)
                  rw [← hlr] at hrow
                  obtain ⟨bx, ox, v0, rfl, hbx1, hbx2, cx0, al, cl, rfl, hcl, hcl2, hRl⟩ := hrow
                  have hbx3 : bx < wr.heap.size := cell_lt cx0
                  have hnext2 := hide (show ((simF es t f tv (seen ++ [u])).take (i + 1)).map (k :: ·) = ((simF es t f tv (seen ++ [u])).take i).map (k :: ·) ++ [k :: l] by rw [List.take_succ_eq_append_getElem (by rw [← hL.out]; exact hlt2), List.map_append, ← hlr]; rfl)
                  have hllen : l.length ≤ 2985984 := by
                    have := simF_row (es := es) (t := t) f tv (seen ++ [u]) l (by rw [hlr]; exact List.getElem_mem _)
                    omega
                  obtain ⟨ll, hll⟩ : ∃ ll, ll = l.length := ⟨_, rfl⟩
                  rw [← hll] at cx0 hllen
                  replace hll := hide hll
                  have hts := hide (show ts.length = p + i by rw [hO.out.1]; exact hpl2.out i (by omega))
                  have iiL : (0 : Int) ≤ (i : Int) ∧ (i : Int) < (L : Int) := by omega
                  have hlit := hide (own_litY wr 3 wr.heap.size (Nat.le_refl _) (k : Int))
                  have hRl2 := hide (fun (o : Obj) => (hRl.mono hzr).below (up_alloc (Below.refl _ _) (Nat.le_refl _) : Below wr.heap.size wr (wr.alloc o)) (Nat.le_refl _))
                  have hwb : w.heap.size + 1 ≤ wr.heap.size := by omega
                  replace hlr := hide hlr
                  clear hRl
                  go_wp2_with (first
                    | (at_builtin; refine wpList_pushAll (e := 3) (enc := encI) (xs := [(k : Int)]) (v := .slice (some ⟨wr.heap.size, 0, none⟩) 1 1) (base := wr.heap.size) rfl (.tmp 59) (.tmp 60) 29 rfl _ 8 Try.underlying29 info_int rfl ?y0 lenI oneI 1 ?y1 ?y2 hlit.out wr.heap.size al ll cl (NI l) ?y3 ?y4 hcl (hRl2.out _) ?y5 ?y6 ?y7 ?_; (case y0 => omega); (case y1 => rfl); (case y2 => rfl); (case y3 => rw [ni_len, hll.out]); (case y4 => rfl); (case y5 => omega); (case y6 => unfold maxLen; omega); (case y7 => simp); intro a5 c5 w5 own5 hb5 hg5; obtain ⟨g5, e5, hg51, hg52⟩ := own5.blockI (show 0 < 1 + ll by omega); subst e5; have hb5' : Below wr.heap.size wr w5 := unalloc hb5 (Nat.le_refl _); have hO5 := hide (hO.out.stays hb5'); have hbl5 := hide (fun kk (hkk : (Value.slice ao (p + i) co).ownBlock = some kk) => (hO.out.2.1.block_lt kk hkk).2); have hz5 := hb5'.size; have hrow5 := hide (show Row encI 1 w5 w5.heap.size (some ⟨g5, 0, none⟩) (NI (k :: l)) from own_rowI own5); have x05 := cu_below hb5' x0 xz; have x15 := cu_below hb5' x1 xz; have xz5 := cell_lt x05; replace hb5' := hide hb5'; clear own5 hb5 hg5)
                    | (at_builtin; (refine wpList_pushL (e := 29) (enc := encS) (xs := ts) (v := .slice ao ((p + i)) co) (base := w.heap.size + 1) rfl (.tmp 57) (.tmp 62) 25 rfl _ 24 Try.underlying25 info_row rfl ?d16 lenS oneS ((p + i)) ?d26 ?d36 ?d46 ⟨w5.heap.size, 0, none⟩ 1 ⟨some ⟨g5, 0, none⟩, 1 + ll, c5⟩ ?d56 ?d66 ?d76 ?d86 ?d96 ?_); (case d16 => omega); (case d26 => exact hts.out); (case d36 => rfl); (case d46 => exact (hO5.out.2.1.alloc _)); (case d56 => rfl); (case d66 => exact newS _ _ _ _ rfl); (case d76 => omega); (case d86 => unfold maxLen; omega); (case d96 => first | omega | (simp; done) | (simp; omega)); intro g6 c6 w6 own6 hb6 hgr6 hat6 hgl6; have hb56 := hide (unalloc hb6 (Nat.le_trans hwb hz5))))
                  have hSO : SOut 29 w6 (w.heap.size + 1) (.slice (some ⟨g6, 0, none⟩) (p + i + 1) c6) (ts ++ [⟨some ⟨g5, 0, none⟩, (k :: l).length, c5⟩]) (((List.range k).flatMap (simStep es t f u seen) ++ ((simF es t f tv (seen ++ [u])).take i).map (k :: ·)) ++ [k :: l]) := by
                    refine hO5.out.push hrow5.out (fun e => ?_) hg52 (by omega) ?_ hgr6 (fun kk hkk => ?_)
                    · have := hbl5.out _ e; omega
                    · have h9 := own6
                      rw [show 1 + ll = (k :: l).length by rw [List.length_cons, hll.out]; omega] at h9
                      exact h9
                    · simp only [Value.ownBlock, Option.some.injEq] at hkk
                      subst hkk
                      rcases hat6 with e | e
                      · exact .inl e
                      · right; rw [e]; simp
                  rw [List.append_assoc, ← hnext2.out] at hSO
                  replace hSO := hide hSO
                  have x06 := cu_below hb56.out x05 (by simp)
                  have x16 := cu_below hb56.out x15 (by simp)
                  have hbw6 := hide (hb.out.trans ((hb5'.out.mono (by omega)).trans (hb56.out.mono (by omega))))
                  have hK6 : Keep (fun kk => (Value.slice ao (p + i) co).ownBlock = some kk) w5 w6 := ((Keep.refl _ w5).alloc _).grown hgr6 (fun kk hkk => .inl hkk)
                  have hr6 := hide ((hrows.out.below (hb5'.out.mono hzr) (Nat.le_refl _)).keep hK6 hob.out)
                  have hob6 := hide (fun kk (hkk : (Value.slice (some ⟨g6, 0, none⟩) (p + (i + 1)) c6).ownBlock = some kk) => (show kk < w1.heap.size ∨ wc.heap.size ≤ kk from by
                    simp only [Value.ownBlock, Option.some.injEq] at hkk
                    subst hkk
                    rcases hat6 with e | e
                    · exact hob.out _ e
                    · right; rw [e]; simp; omega))
                  have hz6 := hb56.out.size
                  clear hK6 own6 hgr6 hat6 hb6
                  go_wp2_with fail
                  go_roundw
                  case rel => exact ⟨i + 1, _, _, _, by go_num, rfl, by omega, hSO, hbw6, hr6, hob6, by omega, x06, x16⟩
                  case measure => simp [intOf]; omega
                · obtain rfl : L = i := by omega
                  have hend := hide (show (List.range k).flatMap (simStep es t f u seen) ++ ((simF es t f tv (seen ++ [u])).take L).map (k :: ·) = (List.range (k + 1)).flatMap (simStep es t f u seen) by rw [hnext.out, hs2.out, List.take_of_length_le (by rw [hL.out]; exact Nat.le_refl _)])
                  have hO2 := hide (show SOut 29 wr (w.heap.size + 1) (.slice ao (p + L) co) ts ((List.range (k + 1)).flatMap (simStep es t f u seen)) by rw [← hend.out]; exact hO.out)
                  have hl2 := hide (show ((List.range (k + 1)).flatMap (simStep es t f u seen)).length = p + L by rw [← hend.out]; exact hpl2.out L (Nat.le_refl _))
                  clear hO
                  go_wp2
                  go_roundg (gk - 1)
                  case measure => omega
                  case rel => exact ⟨k + 1, p + L, ao, co, ts, by go_num, by go_num, by omega, by omega, hl2, hO2, hb, x0, x1⟩
        · obtain rfl : k = es.length := by omega
          have hfin := hide (show SBack (simF es t (f + 1) u seen) w (.returned (.slice ao p co)) wq from by
            rw [hsim.out]
            exact ⟨ao, co, by rw [hp.out], hO.out.rows.mono (Nat.le_refl _) (by omega), hb.out⟩)
          go_wp2
          go_ret
          exact hfin.out
end Go.Proofs.Ytcehdpeeaogpiaa
