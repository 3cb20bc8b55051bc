/-
  union.Of and union.Many. Conditions: as each theorem says.
-/
import Derived.Test.YtiibhdibeljcjaaGroups
import Derived.Test.YtiibhdibeljcjaaOpen
import Derived.BigQuiet
import Derived.Deep.QuietTactic
import Derived.WalkSpells
import Derived.WalkLawsBesides
namespace Go.Proofs.Ytiibhdibeljcjaa
open Go.RowKit
set_option linter.unusedSimpArgs false
set_option linter.unusedVariables false

def badPair (n : Int) (p : P2) : Bool := decide (p.a < 0 ∨ p.a ≥ n ∨ p.b < 0 ∨ p.b ≥ n)
def pairsErr (n : Int) (l : List P2) : Int := if n < 0 ∨ n > 64 then 1 else if l.length > 600 then 2 else if l.any (badPair n) then 1 else 0
def natPairs (l : List P2) : List (Nat × Nat) := l.map fun p => (p.a.toNat, p.b.toNat)
def grpOf (n : Nat) (l : List P2) : List Int := Lst n (rounds (natPairs l) n)
theorem pairs_ok {n : Int} {l : List P2} (h : pairsErr n l = 0) : 0 ≤ n ∧ n ≤ 64 ∧ l.length ≤ 600 ∧ ∀ p ∈ l, 0 ≤ p.a ∧ p.a < n ∧ 0 ≤ p.b ∧ p.b < n := by
  unfold pairsErr at h
  split at h
  · omega
  split at h
  · omega
  split at h
  · omega
  rename_i h3
  refine ⟨by omega, by omega, by omega, fun p hp => ?_⟩
  simp only [List.any_eq_true, not_exists, not_and, Bool.not_eq_true] at h3
  have := h3 p hp
  simp [badPair] at this
  omega
theorem natPairs_take (l : List P2) (k : Nat) (h : k < l.length) : natPairs (l.take (k + 1)) = natPairs (l.take k) ++ [(l[k].a.toNat, l[k].b.toNat)] := by
  unfold natPairs
  rw [List.take_succ_eq_append_getElem h, List.map_append]
  rfl
theorem natPairs_mem {l : List P2} {k : Nat} (h : k < l.length) : (l[k].a.toNat, l[k].b.toNat) ∈ natPairs l := List.mem_map.2 ⟨l[k], List.getElem_mem h, rfl⟩
theorem any_hit {l : List P2} {q : P2 → Bool} {k : Nat} (h : k < l.length) (hq : q l[k] = true) : l.any q = true := List.any_eq_true.2 ⟨_, List.getElem_mem h, hq⟩
theorem any_none {l : List P2} {q : P2 → Bool} (h : ∀ (k : Nat) (h : k < l.length), q l[k] = false) : l.any q = false := by
  rw [List.any_eq_false]
  intro x hx
  obtain ⟨k, hk, rfl⟩ := List.getElem_of_mem hx
  simp [h k hk]
def RowErr {α : Type} (enc : α → List Value) (sz : Nat) (xs : List α) (err : Int) (w : World) (e : Ending) (w' : World) : Prop := ∃ a c, e = .returned (.tuple #[.slice a xs.length c, .int .i64 err]) ∧ Row enc sz w' w'.heap.size a xs ∧ Below w.heap.size w w'
/-- what union.Of hands back -/
def ofErr (n : Int) (l : List P2) (xs : List Int) (err : Int) : Prop := (pairsErr n l ≠ 0 ∧ xs = [] ∧ err = pairsErr n l) ∨ (pairsErr n l = 0 ∧ xs = grpOf n.toNat l ∧ err = 0)
set_option maxHeartbeats 1000000 in
theorem uof_bad (n : Int) (a : Option Addr) (cap : Nat) (l : List P2) (w : World) (h : n < 0 ∨ n > 64 ∨ l.length > 600) (hl : l.length ≤ 9223372036854775807) :
    Calls Try.prog 32 #[.int .i64 n, .slice a l.length cap] w (RowErr encI 1 [] (pairsErr n l) w) := by
  by_cases h1 : n < 0
  · have hr := hide (show pairsErr n l = 1 by unfold pairsErr; rw [if_pos (by omega)])
    go_enter Try.func32, Try.ntmps32
    go_wp2
    go_ret2
    exact ⟨none, 0, by rw [hr.out]; rfl, Row.nil _ _ _ _ _, Below.refl _ _⟩
  by_cases h2 : 64 < n
  · have hr := hide (show pairsErr n l = 1 by unfold pairsErr; rw [if_pos (by omega)])
    go_enter Try.func32, Try.ntmps32
    go_wp2
    go_ret2
    exact ⟨none, 0, by rw [hr.out]; rfl, Row.nil _ _ _ _ _, Below.refl _ _⟩
  have hr := hide (show pairsErr n l = 2 by unfold pairsErr; rw [if_neg (by omega), if_pos (by omega)])
  have h3 : (600 : Int) < (l.length : Int) := by omega
  go_enter Try.func32, Try.ntmps32
  go_wp2
  go_ret2
  exact ⟨none, 0, by rw [hr.out]; rfl, Row.nil _ _ _ _ _, Below.refl _ _⟩

set_option maxHeartbeats 1000000 in
theorem uof_any (n : Nat) (a : Option Addr) (cap : Nat) (l : List P2) (w : World) (B : Nat) (hB : B ≤ w.heap.size) (hE : Row encP 2 w B a l) (hn : n ≤ 64) (hl : l.length ≤ 600) (xs : List Int) (err : Int) (hx : ofErr n l xs err) :
    Calls Try.prog 32 #[.int .i64 (n : Int), .slice a l.length cap] w (RowErr encI 1 xs err w) := by
  replace hE := hide hE
  replace hx := hide hx
  go_enter Try.func32, Try.ntmps32
  go_wp2_with fail
  refine (unew_any n _ hn).mono ?_
  rintro e w1 ⟨v, b, rfl, hb1, hG1, hB1⟩
  replace hG1 := hide hG1
  replace hB1 := hide hB1
  go_wp2
  go_loopw [24] (fun i wr => ∃ (k : Nat) (f : Nat → Nat), k ≤ l.length ∧ i = .int .i64 k ∧ Hid ((∀ (j : Nat) (h : j < k) (h : j < l.length), badPair n l[j] = false) ∧ Done (natPairs l) (natPairs (l.take k)) f) ∧ Hid (Grp wr b v n f ∧ w.heap.size ≤ b) ∧ Below w.heap.size w wr) (fun i _ => l.length - (intOf i).toNat)
  case atStart => exact ⟨0, fun i => i, Nat.zero_le _, rfl, ⟨fun j h => by omega, by simpa [natPairs] using done_start _⟩, ⟨hG1.out, hb1⟩, hB1.out⟩
  case round =>
    obtain ⟨k, f, hk, rfl, hD, hG, hb⟩ := hrel
    have hbw := hG.out.2
    replace hG := hide hG.out.1
    have hsz := hb.size
    have hbl := cell_lt hG.out.1
    by_cases hlt : k < l.length
    · obtain ⟨ba, o, rfl, hbB, c0, c1⟩ := hE.out.p2 k hlt
      rw [← hb.cell (by simp; omega)] at c0 c1
      by_cases hbad : badPair n l[k] = true
      · have hr := hide (show pairsErr n l = 1 by unfold pairsErr; rw [if_neg (by omega), if_neg (by omega), if_pos (any_hit hlt hbad)])
        have hx2 := hide (show xs = [] ∧ err = 1 by rcases hx.out with ⟨h1, h2, h3⟩ | ⟨h1, _⟩; exact ⟨h2, by rw [h3, hr.out]⟩; rw [hr.out] at h1; omega)
        simp only [badPair, decide_eq_true_eq] at hbad
        obtain ⟨pa, hpa⟩ : ∃ x, x = l[k].a := ⟨_, rfl⟩
        obtain ⟨pb, hpb⟩ : ∃ x, x = l[k].b := ⟨_, rfl⟩
        rw [← hpa] at hbad c0
        rw [← hpb] at hbad c1
        clear hpa hpb
        have hcase : pa < 0 ∨ (0 ≤ pa ∧ (n : Int) ≤ pa) ∨ (0 ≤ pa ∧ pa < n ∧ pb < 0) ∨ (0 ≤ pa ∧ pa < n ∧ 0 ≤ pb ∧ (n : Int) ≤ pb) := by omega
        clear hbad
        rcases hcase with h | ⟨h1, h2⟩ | ⟨h1, h2, h3⟩ | ⟨h1, h2, h3, h4⟩
        all_goals
          go_wp2
          go_ret2
          obtain ⟨rfl, rfl⟩ := hx2.out
          exact ⟨none, 0, rfl, Row.nil _ _ _ _ _, (by repeat (first | with_reducible exact Below.refl _ _ | with_reducible assumption | with_reducible refine up_drewN ?_ | with_reducible refine up_drew ?_ | (with_reducible refine up_alloc ?_ ?_; rotate_left; (first | omega | (simp <;> omega) | simp)) | (with_reducible refine up_set ?_ ?_; rotate_left; (first | omega | (simp <;> omega) | simp)) | (with_reducible refine Below.trans ?_ (Below.mono (by with_reducible assumption) ?_); rotate_left; (first | omega | (simp <;> omega) | simp))))⟩
      · have hbad' := hide (show badPair n l[k] = false by simpa using hbad)
        have hrg : 0 ≤ l[k].a ∧ l[k].a < n ∧ 0 ≤ l[k].b ∧ l[k].b < n := by have := hbad'.out; simp [badPair] at this; omega
        have hnp := hide (natPairs_take l k hlt)
        have hnm := hide (natPairs_mem hlt)
        obtain ⟨x, hx1⟩ := Int.eq_ofNat_of_zero_le hrg.1
        obtain ⟨y, hy1⟩ := Int.eq_ofNat_of_zero_le hrg.2.2.1
        rw [hx1] at c0
        rw [hy1] at c1
        have hxn : x < n := by omega
        have hyn : y < n := by omega
        replace hnp := hide (show natPairs (l.take (k + 1)) = natPairs (l.take k) ++ [(x, y)] by rw [hnp.out, hx1, hy1]; rfl)
        replace hnm := hide (show (x, y) ∈ natPairs l by have := hnm.out; rw [hx1, hy1] at this; exact this)
        clear hbad hrg hx1 hy1
        have hGa : Hid (Grp (wr.alloc (.cells #[.int .i64 (x : Int), .int .i64 (y : Int)] 106)) b v n f) := hG.out.keep ((Keep.refl (fun _ => False) _).alloc _) (fun h => h) (fun _ _ h => h)
        go_wp2_with fail
        refine (join_any b n v f x y _ hD.out.2.1 hGa.out hxn hyn hn).mono ?_
        rintro e w2 ⟨rfl, f2, hf2, hr2, hG2, hK2⟩
        replace hG2 := hide hG2
        replace hK2 := hide hK2
        replace hr2 := hide hr2
        replace hf2 := hide hf2
        have hvb := hide (show ∀ j, Blk v j → w.heap.size ≤ j by
          intro j hj
          have := hG.out.2.2.block_lt j hj
          omega)
        go_wp2
        go_roundw
        case rel =>
          refine ⟨k + 1, f2, by omega, by go_num, ?_, ⟨hG2.out, hbw⟩, ?_⟩
          · refine hide ⟨fun j h1 h2 => ?_, ?_⟩
            · by_cases e : j = k
              · subst e; exact hbad'.out
              · exact hD.out.1 j (by omega) h2
            · rw [hnp.out]
              exact done_same (done_join hD.out.2 hnm.out) hf2.out hr2.out
          · exact (hb.alloc hsz _).trans (hK2.out.toBelow hvb.out (by simp; omega))
        case measure => simp [intOf]; omega
    · obtain rfl : k = l.length := by omega
      have hok := hide (show pairsErr n l = 0 by
        unfold pairsErr
        rw [if_neg (by omega), if_neg (by omega), any_none (fun j h => hD.out.1 j h h)]
        rfl)
      have hx2 := hide (show xs = grpOf n l ∧ err = 0 by
        rcases hx.out with ⟨h1, _⟩ | ⟨_, h2, h3⟩
        · exact absurd hok.out h1
        · exact ⟨h2, h3⟩)
      have hlab := hide (show grpOf n l = Lst n (root f) by
        have hd := hD.out.2
        rw [List.take_length] at hd
        unfold grpOf Lst
        apply List.map_congr_left
        intro j hj
        rw [done_all hd ?_ j (List.mem_range.1 hj)]
        intro p hp
        obtain ⟨q, hq, rfl⟩ := List.mem_map.1 hp
        have := (pairs_ok hok.out).2.2.2 q hq
        simp only
        omega)
      have hF0 := hide hD.out.2.1
      clear hD hx
      obtain ⟨wo, rfl⟩ : ∃ wo : World, wo = wr := ⟨_, rfl⟩
      go_wp2
      go_loopw [9, 56] (fun s9 i wq => ∃ (k : Nat) (av : Option Addr) (cv : Nat) (f' : Nat → Nat), k ≤ n ∧ i = .int .i64 k ∧ s9 = .slice av k cv ∧ Hid (Forest f' ∧ ∀ j, root f' j = root f j) ∧ Hid (Grp wq b v n f') ∧ Hid (Own encI 1 3 wq wo.heap.size (.slice av k cv) (Lst k (root f))) ∧ Below w.heap.size w wq ∧ wo.heap.size ≤ wq.heap.size) (fun _ i _ => n - (intOf i).toNat)
      case atStart => exact ⟨0, none, 0, f, Nat.zero_le _, rfl, rfl, ⟨hF0.out, fun _ => rfl⟩, hG, Own.nil _ _, hb, Nat.le_refl _⟩
      case round =>
        obtain ⟨k, av, cv, f', hk, rfl, rfl, hF, hGq, own, hbq, hsq⟩ := hrel
        by_cases hlt2 : k < n
        · go_wp2_with fail
          refine (find_any b n v f' k _ hF.out.1 hGq.out hlt2 hn).mono ?_
          rintro e w2 ⟨rfl, f2, hf2, hr2, hG2, hK2⟩
          rw [hF.out.2]
          have hs2 := hK2.size
          have hvb := hide (show ∀ j, Blk v j → w.heap.size ≤ j ∧ j < wo.heap.size by
            intro j hj
            have := hG.out.2.2.block_lt j hj
            omega)
          have own2 : Hid (Own encI 1 3 w2 wo.heap.size (.slice av k cv) (Lst k (root f))) := hK2.own own.out (fun j hj hs => by
            have h1 := own.out.block_lt j hj
            have h2 := hvb.out j hs
            omega)
          replace hG2 := hide hG2
          replace hK2 := hide hK2
          replace hr2 := hide hr2
          replace hf2 := hide hf2
          go_wp2_with (at_builtin; (refine wpList_push (e := 3) (enc := encI) (xs := Lst k (root f)) (v := .slice av (k) cv) (base := wo.heap.size) rfl (.tmp 59) (.tmp 63) 24 rfl _ 8 Try.underlying24 info_int rfl ?d11 lenI oneI (k) ?d21 ?d31 ?d41 ⟨w2.heap.size, 0, none⟩ 1 (root f k : Int) ?d51 ?d61 ?d71 ?d81 ?d91 ?_); (case d11 => omega); (case d21 => exact lst_len k _); (case d31 => rfl); (case d41 => exact own2.out.alloc _); (case d51 => rfl); (case d61 => exact newI _ _ _ _ rfl); (case d71 => omega); (case d81 => unfold maxLen; omega); (case d91 => first | omega | (simp; done) | (simp; omega)); intro g1 c1 w1 own1 hb1 hgr1 hg1 hgl1; have hB1 := unalloc hb1 (by omega); replace own1 := hide own1; replace hB1 := hide hB1; replace hb1 := hide hb1; replace hgr1 := hide hgr1)
          go_roundw
          case rel =>
            refine ⟨k + 1, some ⟨g1, 0, none⟩, c1, f2, by omega, by go_num, rfl, ⟨hf2.out, fun j => by rw [hr2.out, hF.out.2]⟩, ?_, ?_, ?_, ?_⟩
            · refine hide (hG2.out.keep (Keep.ofBelow (S := fun k => wo.heap.size ≤ k) hB1.out (fun k _ h => h)) (by omega) (fun j hj hs => ?_))
              have := (hvb.out j hj).2
              omega
            · rw [lst_succ]
              exact own1
            · exact (hbq.trans (hK2.out.toBelow (fun j hj => (hvb.out j hj).1) hbq.size)).trans (hB1.out.mono (by omega))
            · have := hB1.out.size; omega
          case measure => simp [intOf]; omega
        · obtain rfl : k = n := by omega
          go_wp2
          go_ret2
          obtain ⟨rfl, rfl⟩ := hx2.out
          obtain ⟨a', c', hv, hr, _⟩ := own.out.row lenI
          simp only [Value.slice.injEq] at hv
          obtain ⟨rfl, h2, rfl⟩ := hv
          refine ⟨av, cv, ?_, ?_, hbq⟩
          · rw [hlab.out, lst_len]; rfl
          · rw [hlab.out]; exact hr
end Go.Proofs.Ytiibhdibeljcjaa
