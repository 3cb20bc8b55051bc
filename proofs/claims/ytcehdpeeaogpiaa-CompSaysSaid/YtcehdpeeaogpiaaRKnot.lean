/-
  The reference's Knots: each place's least partner both ways. Conditions: a right net.
-/
import Derived.Test.YtcehdpeeaogpiaaRReach
import Derived.Test.YtcehdpeeaogpiaaROut
import Derived.Test.YtcehdpeeaogpiaaCompR
namespace Go.Proofs.Ytcehdpeeaogpiaa
open Go.RowKit
set_option linter.unusedSimpArgs false
set_option linter.unusedVariables false
theorem row_knot : (Try.prog.info? 52).map (fun i => (i.zero, i.size, i.bytes)) = some (some (.slice none 0 0), 1, 24) := by kernel_rfl
/-- the rows, each n long: the list is the call's own, no row lies in the list's block -/
def BOut (eo : TypeId) (w : World) (base : Nat) (v : Value) (n : Nat) (ts : List S3) (rows : List (List Bool)) : Prop :=
  ts.length = rows.length ∧ Own encS 1 eo w base v ts ∧ ∀ i (h : i < rows.length), ∃ bi ci, ts[i]? = some ⟨some ⟨bi, 0, none⟩, n, ci⟩ ∧ Row encB 1 w w.heap.size (some ⟨bi, 0, none⟩) rows[i] ∧ v.ownBlock ≠ some bi ∧ bi < w.heap.size
theorem BOut.nil (eo : TypeId) (w : World) (base n : Nat) : BOut eo w base (.slice none 0 0) n [] [] := ⟨rfl, Own.nil _ _, fun i h => by cases h⟩
theorem BOut.stays {eo : TypeId} {w w' : World} {base n : Nat} {v : Value} {ts : List S3} {rows : List (List Bool)} (h : BOut eo w base v n ts rows) (hb : Below w.heap.size w w') : BOut eo w' base v n ts rows := by
  refine ⟨h.1, h.2.1.stays hb, fun i hi => ?_⟩
  obtain ⟨bi, ci, h1, h2, h3, h4⟩ := h.2.2 i hi
  exact ⟨bi, ci, h1, (h2.below hb (Nat.le_refl _)).mono hb.size, h3, Nat.lt_of_lt_of_le h4 hb.size⟩
/-- behind the append of one more row -/
theorem BOut.push {eo : TypeId} {w w' : World} {base n : Nat} {v v' : Value} {ts : List S3} {rows : List (List Bool)} (h : BOut eo w base v n ts rows) {bi ci : Nat} {r : List Bool} (hr : Row encB 1 w w.heap.size (some ⟨bi, 0, none⟩) r) (hne : v.ownBlock ≠ some bi) (hlt : bi < w.heap.size) {o : Obj}
    (own : Own encS 1 eo w' base v' (ts ++ [⟨some ⟨bi, 0, none⟩, n, ci⟩])) (hg : (w.alloc o).grownBy w' v.ownBlock) (hat : ∀ k, v'.ownBlock = some k → v.ownBlock = some k ∨ w.heap.size ≤ k) : BOut eo w' base v' n (ts ++ [⟨some ⟨bi, 0, none⟩, n, ci⟩]) (rows ++ [r]) := by
  have hsz : w.heap.size + 1 ≤ w'.heap.size := by have := hg.size; simpa using this
  have keep : ∀ (b : Nat) (xs : List Bool), b < w.heap.size → v.ownBlock ≠ some b → Row encB 1 w w.heap.size (some ⟨b, 0, none⟩) xs → Row encB 1 w' w'.heap.size (some ⟨b, 0, none⟩) xs := by
    intro b xs hb hvb hx i hi
    obtain ⟨b', o', e1, e2, e3⟩ := hx i hi
    refine ⟨b', o', e1, by omega, fun j u hu => ?_⟩
    simp only [Option.some.injEq, Addr.mk.injEq] at e1
    obtain ⟨rfl, rfl, _⟩ := e1
    exact hg.cell (cu_alloc (e3 j u hu)) (fun e => hvb e.symm)
  refine ⟨by simp [h.1], own, fun i hi => ?_⟩
  have away : ∀ b, b < w.heap.size → v.ownBlock ≠ some b → v'.ownBlock ≠ some b := by
    intro b hb hv e
    rcases hat b e with e2 | e2
    · exact hv e2
    · omega
  rcases Nat.lt_or_ge i rows.length with hlt2 | hge
  · obtain ⟨b, c, h1, h2, h3, h4⟩ := h.2.2 i hlt2
    refine ⟨b, c, ?_, ?_, away b h4 h3, by omega⟩
    · rw [List.getElem?_append_left (by rw [h.1]; exact hlt2)]; exact h1
    · rw [List.getElem_append_left hlt2]; exact keep b _ h4 h3 h2
  · have : i = rows.length := by simp at hi; omega
    subst this
    refine ⟨bi, ci, ?_, ?_, away bi hlt hne, by omega⟩
    · rw [List.getElem?_append_right (by rw [h.1]; exact Nat.le_refl _), h.1]; simp
    · rw [List.getElem_append_right (Nat.le_refl _)]
      simp only [Nat.sub_self, List.getElem_cons_zero]
      exact keep bi r hlt hne hr
/-- read -/
theorem BOut.read {eo : TypeId} {w : World} {base n : Nat} {a : Option Addr} {k c : Nat} {ts : List S3} {rows : List (List Bool)} (h : BOut eo w base (.slice a k c) n ts rows) (i : Nat) (hi : i < rows.length) : ∃ b o ai ci, a = some ⟨b, o, none⟩ ∧ b < w.heap.size ∧ w.cell? ⟨b, o + i, none⟩ = some (.slice ai n ci) ∧ Row encB 1 w w.heap.size ai rows[i] := by
  obtain ⟨bi, ci, h1, h2, _⟩ := h.2.2 i hi
  obtain ⟨a', c', hv, hr, _⟩ := h.2.1.row lenS
  simp only [Value.slice.injEq] at hv
  obtain ⟨rfl, _⟩ := hv
  have hi' : i < ts.length := by rw [h.1]; exact hi
  obtain ⟨b, o, e1, e2, e3⟩ := hr i hi'
  rw [List.getElem?_eq_getElem hi'] at h1
  refine ⟨b, o, some ⟨bi, 0, none⟩, ci, e1, e2, ?_, h2⟩
  have := e3 0 (.slice (some ⟨bi, 0, none⟩) n ci) (by rw [Option.some.inj h1]; rfl)
  simpa using this
theorem own_rowBk {e : TypeId} {w : World} {base n c : Nat} {a : Option Addr} {xs : List Bool} (h : Own encB 1 e w base (.slice a n c) xs) : Row encB 1 w w.heap.size a xs := by
  obtain ⟨a', c', hv, hr, _⟩ := h.row (by intro x; rfl)
  simp only [Value.slice.injEq] at hv
  obtain ⟨rfl, _⟩ := hv
  exact hr
theorem li_snoc (k : Nat) (f : Nat → Int) : LI (k + 1) f = LI k f ++ [f k] := by simp [LI, List.range_succ]
/-- where place v leads -/
def rr (E : List NE) (n v : Nat) : Nat → Bool := rreach E (fun _ => true) (only v) n
def rrows (E : List NE) (n k : Nat) : List (List Bool) := (List.range k).map fun v => RW n (rr E n v)
theorem rrows_len (E : List NE) (n k : Nat) : (rrows E n k).length = k := by simp [rrows]
theorem rrows_succ (E : List NE) (n k : Nat) : rrows E n (k + 1) = rrows E n k ++ [RW n (rr E n k)] := by simp [rrows, List.range_succ]
theorem rrows_get (E : List NE) (n k i : Nat) (h : i < (rrows E n k).length) : (rrows E n k)[i] = RW n (rr E n i) := by simp [rrows]
/-- the search comes to K v and no further -/
theorem knot_at {E : List NE} {n : Nat} {K : Nat → Nat} (hE : ∀ e ∈ E, e.u < n ∧ e.v < n) (hK : ∀ v, v < n → KMin E v (K v)) {v j : Nat} (hv : v < n) (hj : j ≤ K v) (hn : K v < n) : (rr E n j v = true ∧ rr E n v j = true) ↔ j = K v := by
  have hjn : j < n := by omega
  unfold rr
  rw [rreach_lead hE j hjn v hv, rreach_lead hE v hv j hjn]
  obtain ⟨h1, h2, h3⟩ := hK v hv
  constructor
  · intro ⟨a, b⟩
    have := h3 j b a
    omega
  · rintro rfl
    exact ⟨h2, h1⟩
set_option maxRecDepth 100000 in
set_option maxHeartbeats 4000000 in
theorem knots_any (n : Nat) (an : Option Addr) (cap : Nat) (es : List Ed) (w : World) (B : Nat) (hB : B ≤ w.heap.size) (hE : Row encE 3 w B an es) (hn1 : 1 ≤ n) (hn : n ≤ 64) (hl : es.length ≤ 600) (hes : Right n es) :
    Calls Try.prog 37 #[.agg #[.int .i64 (n : Int), .slice an es.length cap]] w fun e w' => ∃ a c, e = .returned (.slice a n c) ∧ Own encI 1 3 w' w.heap.size (.slice a n c) (LI n (ZI (CompK n es))) ∧ Below w.heap.size w w' := by
  have hR : ∀ v w B, _ := fun v w B hB hE hv => rreach_any n an cap es v w B hB hE hn1 hn hl hes hv
  replace hR := hide hR
  have hEr := hide (nes_right hes)
  obtain ⟨K, hKe⟩ : ∃ K, K = CompK n es := ⟨_, rfl⟩
  have hKo := hide (show KOk n K by rw [hKe]; exact kok_tall (nes_right hes))
  have hKm := hide (show ∀ v, v < n → KMin (nes es) v (K v) by rw [hKe]; exact fun v hv => tall_kmin (nes_right hes) v hv)
  rw [← hKe]
  replace hKe := hide hKe
  replace hE := hide hE
  replace hes := hide hes
  go_enter Try.func37, Try.ntmps37
  obtain ⟨w0, h0⟩ : ∃ w0, w0 = w.alloc (.cells #[.int .i64 (n : Int), .slice an es.length cap] 24) := ⟨_, rfl⟩
  go_upto_region 1 with fail
  have k0 : w0.cell? ⟨w.heap.size, 0, none⟩ = some (.int .i64 (n : Int)) := by rw [h0]; simp [go_sem]
  have k1 : w0.cell? ⟨w.heap.size, 1, none⟩ = some (.slice an es.length cap) := by rw [h0]; simp [go_sem]
  have hB0 := hide (show Below w.heap.size w w0 by rw [h0]; exact (by repeat (first | with_reducible exact Below.refl _ _ | with_reducible assumption | with_reducible refine up_drewN ?_ | with_reducible refine up_drew ?_ | (with_reducible refine up_alloc ?_ ?_; rotate_left; (first | omega | (simp <;> omega) | simp)) | (with_reducible refine up_set ?_ ?_; rotate_left; (first | omega | (simp <;> omega) | simp)) | (with_reducible refine Below.trans ?_ (Below.mono (by with_reducible assumption) ?_); rotate_left; (first | omega | (simp <;> omega) | simp)))))
  have hz0 : w0.heap.size = w.heap.size + 1 := by rw [h0]; simp
  simp only [← h0]
  clear h0
  go_wp2
  go_loopw [3, 4, 10] (fun s3 _ i wr => ∃ (k : Nat) (av : Option Addr) (cv : Nat) (ts : List S3), k ≤ n ∧ i = .int .i64 k ∧ s3 = .slice av k cv ∧ Hid (BOut 52 wr w0.heap.size (.slice av k cv) n ts (rrows (nes es) n k)) ∧ Hid (Below w0.heap.size w0 wr)) (fun _ _ i _ => n - (intOf i).toNat)
  case atStart => exact ⟨0, none, 0, [], Nat.zero_le _, rfl, rfl, BOut.nil _ _ _ _, Below.refl _ _⟩
  case round =>
    obtain ⟨k, av, cv, ts, hk, rfl, rfl, hT, hb⟩ := hrel
    by_cases hlt : k < n
    · have k2 := (hb.out.cell (cell_lt k0)).trans k0
      have k3 := (hb.out.cell (cell_lt k1)).trans k1
      have hzr : w0.heap.size ≤ wr.heap.size := hb.out.size
      have hEr2 := hide ((hE.out.below hB0.out hB).below hb.out (Nat.le_trans hB hB0.out.size))
      clear k0 k1
      go_wp2_with fail
      refine (hR.out k _ B (by omega) hEr2.out hlt).mono ?_
      rintro e w3 ⟨g3, rfl, hr3, hb3⟩
      have hg3 := hr3.at_base
      have hT3 := hide (hT.out.stays hb3)
      have hts : ts.length = k := by have := hT.out.1; rw [rrows_len] at this; exact this
      have hne : (Value.slice av k cv).ownBlock ≠ some g3 := by
        intro e
        have := hT.out.2.1.block_lt g3 e
        omega
      have hr4 := hide (own_rowBk hr3)
      clear hr3
      replace hts := hide hts
      replace hne := hide hne
      have hz3 : w0.heap.size ≤ w3.heap.size := Nat.le_trans hzr hb3.size
      go_wp2_with (at_builtin; (refine wpList_pushL (e := 52) (enc := encS) (xs := ts) (v := .slice av (k) cv) (base := w0.heap.size) rfl (.tmp 13) (.tmp 17) 147 rfl _ 24 Try.underlying147 row_knot rfl ?d11 lenS oneS (k) ?d21 ?d31 ?d41 ⟨w3.heap.size, 0, none⟩ 1 ⟨some ⟨g3, 0, none⟩, n, n⟩ ?d51 ?d61 ?d71 ?d81 ?d91 ?_); (case d11 => omega); (case d21 => exact hts.out); (case d31 => rfl); (case d41 => exact hT3.out.2.1.alloc _); (case d51 => rfl); (case d61 => exact newS _ _ _ _ rfl); (case d71 => omega); (case d81 => unfold maxLen; omega); (case d91 => first | omega | (simp; done) | (simp; omega)); intro g1 c1 w1 own1 hb1 hgr1 hat1 hgl1; have hB1 := unalloc hb1 (by omega); replace own1 := hide own1; replace hB1 := hide hB1; replace hb1 := hide hb1; replace hgr1 := hide hgr1; replace hat1 := hide hat1)
      go_roundw
      case rel =>
        refine ⟨k + 1, some ⟨g1, 0, none⟩, c1, ts ++ [⟨some ⟨g3, 0, none⟩, n, n⟩], by omega, by go_num, rfl, ?_, ?_⟩
        · rw [rrows_succ]
          refine hide (hT3.out.push hr4.out hne.out hg3.2 own1.out hgr1.out ?_)
          intro j hj
          simp only [Value.ownBlock, Option.some.injEq] at hj
          subst hj
          rcases hat1.out with h | h
          · exact .inl h
          · right; rw [h]; simp
        · exact hide ((hb.out.trans (hb3.mono hzr)).trans hB1.out)
      case measure => simp [intOf]; omega
    · obtain rfl : n = k := by omega
      obtain ⟨wT, hwT⟩ : ∃ wT, wT = wr := ⟨_, rfl⟩
      have m0 := (hb.out.cell (cell_lt k0)).trans k0
      have m1 := (hb.out.cell (cell_lt k1)).trans k1
      have hbT := hide (hB0.out.trans (hb.out.mono (by omega)))
      have hrd := hide (fun (i : Nat) (hi : i < n) => hT.out.read i (by rw [rrows_len]; exact hi))
      simp only [← hwT] at m0 m1 hbT hrd ⊢
      have hzT := cell_lt m0
      simp only at hzT
      clear hwT k0 k1 hb hT
      go_wp2
      go_loopw [5, 6, 7, 22] (fun s5 _ _ i wr => ∃ (k : Nat) (a5 : Option Addr) (c5 : Nat), k ≤ n ∧ i = .int .i64 k ∧ s5 = .slice a5 k c5 ∧ Hid (Own encI 1 3 wr wT.heap.size (.slice a5 k c5) (LI k (ZI K))) ∧ Hid (Below wT.heap.size wT wr)) (fun _ _ _ i _ => n - (intOf i).toNat)
      case atStart => exact ⟨0, none, 0, Nat.zero_le _, rfl, rfl, Own.nil _ _, Below.refl _ _⟩
      case round =>
        obtain ⟨k, a5, c5, hk, rfl, rfl, hA, hb⟩ := hrel
        have hzw := hb.out.size
        by_cases hlt : k < n
        · have ik : (0 : Int) ≤ (k : Int) ∧ (k : Int) < (n : Int) := by omega
          have hKn := hKo.out.lt k hlt
          obtain ⟨wo, hwo⟩ : ∃ wo : World, wo = wr := ⟨_, rfl⟩
          simp only [← hwo] at hA hb hzw ⊢
          clear hwo
          have hkat := hide (fun j (hj : j ≤ K k) => knot_at hEr.out hKm.out hlt hj hKn)
          obtain ⟨kk, hkk⟩ : ∃ x, x = K k := ⟨_, rfl⟩
          rw [← hkk] at hKn hkat
          replace hkk := hide hkk
          go_wp2
          go_loopw [7] (fun s7 wr => ∃ j : Nat, j ≤ kk ∧ s7 = .int .i64 (j : Int) ∧ wr = wo) (fun s7 _ => kk - (intOf s7).toNat)
          case atStart => exact ⟨0, Nat.zero_le _, rfl, rfl⟩
          case round =>
            obtain ⟨j, hj, rfl, hwe⟩ := hrel
            obtain rfl : wo = wr := hwe.symm
            have hjn : j < n := by omega
            obtain ⟨b, o, ai, ci, rfl, hbl, rc, hrow⟩ := hrd.out j hjn
            obtain ⟨b', o', ai', ci', he, -, rc', hrow'⟩ := hrd.out k hlt
            simp only [Option.some.injEq, Addr.mk.injEq] at he
            obtain ⟨rfl, rfl, -⟩ := he
            rw [rrows_get] at hrow hrow'
            obtain ⟨b1, o1, rfl, hb1, x1⟩ := hrow.bool k (by rw [rw_len]; exact hlt)
            obtain ⟨b2, o2, rfl, hb2, x2⟩ := hrow'.bool j (by rw [rw_len]; exact hjn)
            rw [rw_get] at x1 x2
            have rc := cu_below hb.out rc hbl
            have rc' := cu_below hb.out rc' hbl
            have x1 := cu_below hb.out x1 hb1
            have x2 := cu_below hb.out x2 hb2
            have ij : (0 : Int) ≤ (j : Int) ∧ (j : Int) < (n : Int) := by omega
            have zb : b < wo.heap.size := by omega
            have zb1 : b1 < wo.heap.size := by omega
            have zb2 : b2 < wo.heap.size := by omega
            have hat := hkat.out j hj
            generalize rr (nes es) n j k = p at x1 hat
            generalize rr (nes es) n k j = q at x2 hat
            clear hrow hrow'
            by_cases hjk : j = kk
            · obtain ⟨rfl, rfl⟩ := hat.2 hjk
              subst hjk
              have hA2 := hide hA.out
              have hlk := hide (li_len k (ZI K))
              clear hat
              go_wp2_with (at_builtin; (refine wpList_pushL (e := 3) (enc := encI) (xs := (LI k (ZI K))) (v := .slice a5 (k) c5) (base := wT.heap.size) rfl (.tmp 45) (.tmp 47) 29 rfl _ 8 Try.underlying29 info_int rfl ?d18 lenI oneI (k) ?d28 ?d38 ?d48 ⟨wo.heap.size, 0, none⟩ 1 (j : Int) ?d58 ?d68 ?d78 ?d88 ?d98 ?_); (case d18 => omega); (case d28 => exact hlk.out); (case d38 => rfl); (case d48 => exact (hA.out.alloc _)); (case d58 => rfl); (case d68 => exact newI _ _ _ _ rfl); (case d78 => omega); (case d88 => unfold maxLen; omega); (case d98 => first | omega | (simp; done) | (simp; omega)); intro g8 c8 w8 own8 hb8 hgr8 hat8 hgl8; replace own8 := hide own8; replace hb8 := hide hb8; replace hgr8 := hide hgr8; replace hat8 := hide hat8)
              go_roundw
              case rel =>
                refine ⟨k + 1, some ⟨g8, 0, none⟩, c8, by omega, by go_num, rfl, hide ?_, hide (hb.out.trans (unalloc hb8.out (by omega)))⟩
                have := own8.out
                rwa [hkk.out, show LI k (ZI K) ++ [((K k : Nat) : Int)] = LI (k + 1) (ZI K) from (li_snoc k (ZI K)).symm] at this
              case measure => simp [intOf]; omega
            · cases p with
              | false =>
                clear hat
                go_wp2
                go_roundw
                case rel => exact ⟨j + 1, by omega, by go_num, by first | rfl | trivial⟩
                case measure => simp [intOf]; omega
              | true =>
                have hq : q = false := by
                  cases q with
                  | false => rfl
                  | true => exact absurd (hat.1 ⟨rfl, rfl⟩) hjk
                subst hq
                clear hat
                go_wp2
                go_roundw
                case rel => exact ⟨j + 1, by omega, by go_num, by first | rfl | trivial⟩
                case measure => simp [intOf]; omega
        · obtain rfl : n = k := by omega
          go_wp2
          go_ret
          exact ⟨a5, c5, rfl, hA.out.base_le (by omega), hbT.out.trans (hb.out.mono (by omega))⟩
end Go.Proofs.Ytcehdpeeaogpiaa
