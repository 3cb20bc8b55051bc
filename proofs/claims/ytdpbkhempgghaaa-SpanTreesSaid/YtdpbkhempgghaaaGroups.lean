/-
  union.New, Find, Join. Conditions: as each theorem says.
-/
import Derived.Test.YtdpbkhempgghaaaKeep
import Derived.Test.YtdpbkhempgghaaaEdge
import Derived.Test.YtdpbkhempgghaaaForest
import Derived.Deep.DeepCutAuto
import Derived.ChangeAlike
import Derived.RegionTactic
namespace Go.Proofs.Ytdpbkhempgghaaa
open Go.RowKit
set_option linter.unusedSimpArgs false
set_option linter.unusedVariables false

def Lst (n : Nat) (f : Nat → Nat) : List Int := (List.range n).map fun v => (f v : Int)
theorem lst_len (n : Nat) (f : Nat → Nat) : (Lst n f).length = n := by simp [Lst]
theorem lst_get (n : Nat) (f : Nat → Nat) (i : Nat) (h : i < (Lst n f).length) : (Lst n f)[i] = (f i : Int) := by simp [Lst]
theorem lst_succ (k : Nat) (f : Nat → Nat) : Lst (k + 1) f = Lst k f ++ [(f k : Int)] := by simp [Lst, List.range_succ]
theorem lst_set (n : Nat) (f : Nat → Nat) (i x : Nat) : (Lst n f).set i (x : Int) = Lst n (upd f i x) := by
  apply List.ext_getElem
  · simp [Lst]
  · intro j h1 h2
    rw [lst_get, List.getElem_set]
    by_cases e : i = j
    · subst e; simp [upd]
    · rw [if_neg e, lst_get, upd_other _ _ (fun h => e h.symm)]
/-- the groups in block b hold the list xs -/
def Grp (w : World) (b : Nat) (v : Value) (n : Nat) (f : Nat → Nat) : Prop := w.cell? ⟨b, 0, none⟩ = some v ∧ w.frozen? ⟨b, 0, none⟩ = false ∧ Own encI 1 3 w (b + 1) v (Lst n f)
set_option maxHeartbeats 400000 in
theorem unew_any (n : Nat) (w : World) (hn : n ≤ 64) :
    Calls Try.prog 146 #[.int .i64 (n : Int)] w fun e w' => ∃ v b, e = .returned (.pointer (some ⟨b, 0, none⟩)) ∧ w.heap.size ≤ b ∧ Grp w' b v n (fun i => i) ∧ Below w.heap.size w w' := by
  go_enter Try.func146, Try.ntmps146
  go_wp2_with fail
  go_loopw [8] (fun i wr => ∃ (k : Nat) (v : Value), k ≤ n ∧ i = .int .i64 k ∧ wr.cell? ⟨w.heap.size, 0, none⟩ = some v ∧ wr.frozen? ⟨w.heap.size, 0, none⟩ = false ∧ Hid (Own encI 1 3 wr (w.heap.size + 1) v (Lst k (fun i => i))) ∧ Below w.heap.size w wr ∧ w.heap.size < wr.heap.size) (fun i _ => n - (intOf i).toNat)
  case atStart => exact ⟨0, _, Nat.zero_le _, rfl, by simp [go_sem], by simp [go_sem], Own.nil _ _, (by repeat (first | with_reducible exact Below.refl _ _ | with_reducible assumption | with_reducible refine up_drewN ?_ | with_reducible refine up_drew ?_ | (with_reducible refine up_alloc ?_ ?_; rotate_left; (first | omega | (simp <;> omega) | simp)) | (with_reducible refine up_set ?_ ?_; rotate_left; (first | omega | (simp <;> omega) | simp)) | (with_reducible refine Below.trans ?_ (Below.mono (by with_reducible assumption) ?_); rotate_left; (first | omega | (simp <;> omega) | simp)))), by simp⟩
  case round =>
    obtain ⟨k, v, hk, rfl, c0, f0, own, hb, hsz⟩ := hrel
    obtain ⟨av, cv, rfl⟩ := own.out.shape (lst_len k _)
    by_cases hlt : k < n
    · go_wp2_with (at_builtin; (refine wpList_push (e := 3) (enc := encI) (xs := Lst k (fun i => i)) (v := .slice av (k) cv) (base := w.heap.size + 1) rfl (.tmp 15) (.tmp 17) 22 rfl _ 8 Try.underlying22 info_int rfl ?d11 lenI oneI (k) ?d21 ?d31 ?d41 ⟨wr.heap.size, 0, none⟩ 1 (k : Int) ?d51 ?d61 ?d71 ?d81 ?d91 ?_); (case d11 => omega); (case d21 => exact lst_len k _); (case d31 => rfl); (case d41 => exact own.out.alloc _); (case d51 => rfl); (case d61 => exact newI _ _ _ _ rfl); (case d71 => omega); (case d81 => unfold maxLen; omega); (case d91 => first | omega | (simp; done) | (simp; omega)); intro g1 c1 w1 own1 hb1 hgr1 hg1 hgl1; have hB1 := unalloc hb1 (by omega); obtain ⟨hc1, hf1⟩ := bcellB hB1; replace own1 := hide own1)
      go_roundw
      case rel =>
        refine ⟨k + 1, .slice (some ⟨g1, 0, none⟩) (k + 1) c1, by omega, by go_num, by simp [go_sem, hc1, hf1, c0, f0], by simp [go_sem, hc1, hf1, c0, f0], ?_, ?_, ?_⟩
        · rw [lst_succ]
          exact hide (own1.out.setCell (by simp) _)
        · exact (hb.trans (hB1.mono (by omega))).setCell (by simp) _
        · have := hB1.size; simp; omega
      case measure => simp [intOf]; omega
    · obtain rfl : k = n := by omega
      go_wp2
      go_ret
      exact ⟨_, _, rfl, Nat.le_refl _, ⟨c0, f0, own.out⟩, hb⟩

theorem Grp.at {w : World} {b g n c : Nat} {f : Nat → Nat} (h : Grp w b (.slice (some ⟨g, 0, none⟩) n c) n f) (i : Nat) (hi : i < n) : w.cell? ⟨g, i, none⟩ = some (.int .i64 (f i : Int)) := by
  have := h.2.2.getI i (by rw [lst_len]; exact hi)
  rw [lst_get] at this
  exact this
theorem Grp.slice {w : World} {b n : Nat} {v : Value} {f : Nat → Nat} (h : Grp w b v n f) (hn : 0 < n) : ∃ g c, v = .slice (some ⟨g, 0, none⟩) n c ∧ b < g := by
  rcases h.2.2.form with ⟨_, h2⟩ | ⟨g, c, h1, h2, _⟩
  · have := lst_len n f; rw [h2] at this; simp at this; omega
  · rw [lst_len] at h1; exact ⟨g, c, h1, by omega⟩
theorem Grp.put {w : World} {b g n c : Nat} {f : Nat → Nat} (h : Grp w b (.slice (some ⟨g, 0, none⟩) n c) n f) (hbg : b < g) (i : Nat) (hi : i < n) (x : Nat) : Grp (w.setCell ⟨g, i, none⟩ (.int .i64 (x : Int))) b (.slice (some ⟨g, 0, none⟩) n c) n (upd f i x) := by
  refine ⟨cu_set h.1 (by simp; omega), fu_set h.2.1, ?_⟩
  have := h.2.2.putI i (by rw [lst_len]; exact hi) (x : Int)
  rw [lst_set] at this
  exact this
theorem Grp.keep {S : Nat → Prop} {w w' : World} {b n : Nat} {v : Value} {f : Nat → Nat} (h : Grp w b v n f) (hk : Keep S w w') (h1 : ¬ S b) (h2 : ∀ k, v.ownBlock = some k → ¬ S k) : Grp w' b v n f := by
  refine ⟨hk.cu h.1 h1, ?_, hk.own h.2.2 h2⟩
  rw [hk.frozen (by have := cell_lt h.1; simpa using this) h1]
  exact h.2.1
theorem Grp.drew {w : World} {b n : Nat} {v : Value} {f : Nat → Nat} (h : Grp w b v n f) : Grp w.drew b v n f := ⟨cu_drew h.1, fu_drew h.2.1, h.2.2.drew⟩
def FindSays (w : World) (b : Nat) (v : Value) (n : Nat) (f : Nat → Nat) (w' : World) : Prop := ∃ f', Forest f' ∧ (∀ j, root f' j = root f j) ∧ Grp w' b v n f' ∧ Keep (Blk v) w w'
set_option maxHeartbeats 400000 in
theorem find_any (b n : Nat) (v : Value) (f : Nat → Nat) (i : Nat) (w : World) (hf : Forest f) (hG : Grp w b v n f) (hi : i < n) (hn : n ≤ 64) :
    Calls Try.prog 154 #[.pointer (some ⟨b, 0, none⟩), .int .i64 (i : Int)] w fun e w' => e = .returned (.int .i64 (root f i : Int)) ∧ FindSays w b v n f w' := by
  obtain ⟨g, c, rfl, hbg⟩ := hG.slice (by omega)
  replace hG := hide hG
  replace hf := hide hf
  go_enter Try.func154, Try.ntmps154
  go_wp2_with fail
  go_loopw [1] (fun s wr => ∃ (k : Nat) (f' : Nat → Nat), s = .int .i64 k ∧ k < n ∧ Hid (Forest f' ∧ (∀ j, root f' j = root f j) ∧ root f k = root f i) ∧ Hid (Grp wr b (.slice (some ⟨g, 0, none⟩) n c) n f') ∧ Hid (Keep (Blk (.slice (some ⟨g, 0, none⟩) n c)) w wr)) (fun s _ => (intOf s).toNat)
  case atStart => exact ⟨i, f, rfl, hi, ⟨hf.out, fun _ => rfl, rfl⟩, hG, Keep.refl _ _⟩
  case round =>
    obtain ⟨k, f', rfl, hk, hF, hGr, hK⟩ := hrel
    have hF1 := hF.out.1 k
    have hF2 := hF.out.1 (f' k)
    have c0 := hGr.out.1
    have c1 := hGr.out.at k hk
    have c2 := hGr.out.at (f' k) (by omega)
    have q1 := hGr.out.2.2.free
    have hgs := hGr.out.2.2.at_base
    obtain ⟨p1, hp1⟩ : ∃ p, p = f' k := ⟨_, rfl⟩
    obtain ⟨p2, hp2⟩ : ∃ p, p = f' (f' k) := ⟨_, rfl⟩
    rw [← hp1] at c1
    rw [← hp2, ← hp1] at c2
    rw [← hp1] at hF1
    rw [← hp1] at hF2
    have hp1' := hide hp1
    have hp2' := hide hp2
    have hne : b ≠ g := by omega
    have hl2 : p2 ≤ p1 := by rw [hp2, ← hp1]; exact hF2
    clear hp1 hp2 hF2
    by_cases hlt : p1 = k
    · have q0 : ((p1 : Int) != (k : Int)) = false := by simp; omega
      replace hlt := hide hlt
      go_wp2
      go_ret
      refine ⟨ret_int ?_, f', hF.out.1, hF.out.2.1, hGr.out, hK.out⟩
      rw [← hF.out.2.2, ← hF.out.2.1, root_top (by have := hlt.out; have := hp1'.out; omega)]
    · have q0 : ((p1 : Int) != (k : Int)) = true := by simp; omega
      have i1 : (0 : Int) ≤ (k : Int) ∧ (k : Int) < (n : Int) := by omega
      have i2 : (0 : Int) ≤ (p1 : Int) ∧ (p1 : Int) < (n : Int) := by omega
      have hplt : p1 < k := by omega
      clear hlt
      go_wp2_with fail
      go_region
      all_goals
        go_wp2
        go_roundw
        case rel =>
          refine ⟨p2, upd f' k p2, rfl, by omega, ?_, ?_, ?_⟩
          · have e : p2 = f' (f' k) := hp2'.out
            refine hide ⟨by rw [e]; exact halve_forest hF.out.1 k, fun j => by rw [e, halve_root hF.out.1]; exact hF.out.2.1 j, ?_⟩
            rw [e, ← hF.out.2.1, root_step hF.out.1, root_step hF.out.1, hF.out.2.1]
            exact hF.out.2.2
          · exact hide (Grp.drew (hGr.out.put hbg k hk p2))
          · exact hide (Keep.drew (hK.out.setCell (.inl (blk_slice.2 rfl)) _))
        case measure => simp [intOf]; omega

def JoinSays (w : World) (b : Nat) (v : Value) (n : Nat) (f : Nat → Nat) (x y : Nat) (w' : World) : Prop := ∃ f', Forest f' ∧ (∀ j, root f' j = root (joined f x y) j) ∧ Grp w' b v n f' ∧ Keep (Blk v) w w'
theorem root_lt {f : Nat → Nat} {i n : Nat} (h : i < n) : root f i < n := Nat.lt_of_le_of_lt (root_le f i) h
theorem joined_same {f f' : Nat → Nat} (h : ∀ j, root f' j = root f j) (hf : Forest f) (hf' : Forest f') (x y j : Nat) : root (joined f' x y) j = root (joined f x y) j := by
  rw [joined_root hf', joined_root hf, h, h, h]
set_option maxHeartbeats 400000 in
theorem join_any (b n : Nat) (v : Value) (f : Nat → Nat) (x y : Nat) (w : World) (hf : Forest f) (hG : Grp w b v n f) (hx : x < n) (hy : y < n) (hn : n ≤ 64) :
    Calls Try.prog 147 #[.pointer (some ⟨b, 0, none⟩), .int .i64 (x : Int), .int .i64 (y : Int)] w fun e w' => e = .returned (.bool (decide (root f x ≠ root f y))) ∧ JoinSays w b v n f x y w' := by
  obtain ⟨g, c, rfl, hbg⟩ := hG.slice (by omega)
  replace hG := hide hG
  replace hf := hide hf
  go_enter Try.func147, Try.ntmps147
  go_wp2_with fail
  refine (find_any b n _ f x _ hf.out hG.out hx hn).mono ?_
  rintro e w1 ⟨rfl, f1, hf1, hr1, hG1, hK1⟩
  replace hG1 := hide hG1
  replace hr1 := hide hr1
  replace hf1 := hide hf1
  replace hK1 := hide hK1
  go_wp2_with fail
  refine (find_any b n _ f1 y _ hf1.out hG1.out hy hn).mono ?_
  rintro e w2 ⟨rfl, f2, hf2, hr2, hG2, hK2⟩
  have hr3 : ∀ j, root f2 j = root f j := fun j => by rw [hr2, hr1.out]
  rw [hr1.out]
  have c0 := hG2.1
  have q1 := hG2.2.2.free
  have hgs := hG2.2.2.at_base
  obtain ⟨p, hp⟩ : ∃ p, p = root f x := ⟨_, rfl⟩
  obtain ⟨q, hq⟩ : ∃ q, q = root f y := ⟨_, rfl⟩
  have hpn : p < n := by rw [hp]; exact root_lt hx
  have hqn : q < n := by rw [hq]; exact root_lt hy
  have hfin : ∀ M m, M = max p q → m = min p q → JoinSays w b (.slice (some ⟨g, 0, none⟩) n c) n f x y (w2.setCell ⟨g, M, none⟩ (.int .i64 (m : Int))) := by
    rintro M m rfl rfl
    refine ⟨upd f2 (max p q) (min p q), ?_, fun j => ?_, hG2.put hbg _ (by omega) _, (hK1.out.trans hK2).setCell (.inl (blk_slice.2 rfl)) _⟩
    · exact link_forest hf2 (by omega)
    · have e : upd f2 (max p q) (min p q) = joined f2 x y := by unfold joined; rw [hr3, hr3, ← hp, ← hq]
      rw [e]; exact joined_same hr3 hf.out hf2 x y j
  replace hfin := hide hfin
  rw [← hp, ← hq]
  replace hp := hide hp
  replace hq := hide hq
  replace hr2 := hide hr2
  replace hr3 := hide hr3
  replace hG2 := hide hG2
  replace hf2 := hide hf2
  replace hK2 := hide hK2
  have hne : b ≠ g := by omega
  have d1 := hG2.out.at p hpn
  have d2 := hG2.out.at q hqn
  have hres : ((p : Int) != (q : Int)) = decide (root f x ≠ root f y) := by rw [← hp.out, ← hq.out, Bool.eq_iff_iff]; simp; omega
  replace hres := hide hres
  rcases Nat.lt_trichotomy p q with h | h | h
  · go_wp2
    go_ret
    exact ⟨ret_bool hres.out, hfin.out q p (by omega) (by omega)⟩
  · subst h
    go_wp2
    go_ret
    exact ⟨ret_bool (by rw [← hres.out]; simp), hfin.out p p (by omega) (by omega)⟩
  · go_wp2
    go_ret
    exact ⟨ret_bool hres.out, hfin.out p q (by omega) (by omega)⟩
end Go.Proofs.Ytdpbkhempgghaaa
