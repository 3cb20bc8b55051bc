/-
  What the reference's Table returns: is it a table of n places? Conditions: it reads.
-/
import Derived.Test.YtdpbkhempgghaaaHFit
import Derived.Test.YtdpbkhempgghaaaConcatS
import Derived.Test.YtdpbkhempgghaaaIdx
namespace Go.Proofs.Ytdpbkhempgghaaa
open Go.RowKit
set_option linter.unusedSimpArgs false
set_option linter.unusedVariables false
def toS3 (s : SR) : S3 := ⟨s.a, s.xs.length, s.c⟩
theorem row_toS3 {w : World} {B : Nat} {a : Option Addr} {ss : List SR} (h : Row encR 1 w B a ss) : Row encS 1 w B a (ss.map toS3) := by
  intro i hi
  have hi' : i < ss.length := by simpa using hi
  obtain ⟨b, o, e1, e2, e3⟩ := h i hi'
  exact ⟨b, o, e1, e2, fun j u hu => e3 j u (by simpa [toS3, encS, encR] using hu)⟩
theorem row_ofS3 {w : World} {B : Nat} {a : Option Addr} {ss : List SR} (h : Row encS 1 w B a (ss.map toS3)) : Row encR 1 w B a ss := by
  intro i hi
  obtain ⟨b, o, e1, e2, e3⟩ := h i (by simpa using hi)
  exact ⟨b, o, e1, e2, fun j u hu => e3 j u (by simpa [toS3, encS, encR] using hu)⟩
theorem row_two3 (w : World) (t : TypeId) (x y : S3) : Row encS 1 (w.alloc (.cells #[.slice x.a x.n x.c, .slice y.a y.n y.c] t)) (w.heap.size + 1) (some ⟨w.heap.size, 0, none⟩) [x, y] := by
  intro i hi
  refine ⟨w.heap.size, 0, rfl, by omega, fun j u hu => ?_⟩
  have hi2 : i = 0 ∨ i = 1 := by simp at hi; omega
  rcases hi2 with rfl | rfl
  · match j, hu with
    | 0, hu => simp [encS] at hu; subst hu; simp [go_sem]
  · match j, hu with
    | 0, hu => simp [encS] at hu; subst hu; simp [go_sem]
set_option maxRecDepth 100000 in
set_option maxHeartbeats 1000000 in
theorem tab1_any (bn n : Nat) (s : SR) (w : World) (B : Nat) (hB : B ≤ w.heap.size) (hq : QR w B s) (hk : w.cell? ⟨bn, 0, none⟩ = some (.int .i64 (n : Int))) (hn : 1 ≤ n) (hn2 : n ≤ 64) :
    Calls Try.prog 82 #[.slice s.a s.xs.length s.c, .pointer (some ⟨bn, 0, none⟩)] w fun e w' => e = .returned (.bool (!okRow n s.xs)) ∧ Below w.heap.size w w' := by
  obtain ⟨sa, sc, xs⟩ := s
  obtain ⟨z1, z2, z3, z4⟩ := hq
  simp only at z1 z2 z3 z4 ⊢
  have hzn := cell_lt hk
  by_cases hl : xs.length = n
  · have h0 : 0 < xs.length := by omega
    have hmn := minL_le h0 0
    have hmx := maxL_ge h0 1099511627776
    have hok : okRow n xs = (decide (0 ≤ minL xs) && decide (maxL xs ≤ 1099511627776)) := by
      rw [Bool.eq_iff_iff, okRow_iff, Bool.and_eq_true, decide_eq_true_eq, decide_eq_true_eq, hmn, hmx]
      exact ⟨fun h => ⟨fun x hx => (h.2 x hx).1, fun x hx => (h.2 x hx).2⟩, fun h => ⟨hl, fun x hx => ⟨h.1 x hx, h.2 x hx⟩⟩⟩
    have hMin := hide (fun w' hE => smin_any sa sc xs w' B hE h0 (by omega))
    have hMax := hide (fun w' hE => smax_any sa sc xs w' B hE h0 (by omega))
    obtain ⟨p, hp⟩ : ∃ p, p = xs.length := ⟨_, rfl⟩
    rw [← hp] at hMin hMax hl ⊢
    replace hp := hide hp
    have p1 : ((p : Int) != (n : Int)) = false := by simp [hl]
    replace hl := hide hl
    replace z3 := hide z3
    clear hmn hmx z1 z4 z2 h0
    generalize minL xs = x at hok hMin
    generalize maxL xs = y at hok hMax
    by_cases hx : x < 0
    · have hfin := hide (show (!okRow n xs) = true by rw [hok]; simp; omega)
      have p2 : decide (x < 0) = true := by simp [hx]
      clear hok
      go_enter Try.func82, Try.ntmps82
      go_wp2_with fail
      refine (hMin.out _ (by first | exact z3.out | exact z3.out.below (below_drew _) hB)).mono ?_
      rintro e w1 ⟨rfl, nq, rfl⟩
      go_wp2
      go_ret
      exact ⟨ret_bool hfin.out.symm, up_drewN (Below.refl _ _)⟩
    · have p2 : decide (x < 0) = false := by simp; omega
      have hfin := hide (show (!okRow n xs) = decide (1099511627776 < y) by
        rw [hok]
        by_cases hy : y ≤ 1099511627776
        · simp [hy, show 0 ≤ x by omega, show ¬ 1099511627776 < y by omega]
        · simp [hy, show 1099511627776 < y by omega])
      clear hok
      go_enter Try.func82, Try.ntmps82
      go_wp2_with fail
      refine (hMin.out _ (by first | exact z3.out | exact z3.out.below (below_drew _) hB)).mono ?_
      rintro e w1 ⟨rfl, nq, rfl⟩
      go_wp2_with fail
      refine (hMax.out _ (by first | exact z3.out | exact z3.out.below (up_drewN (Below.refl _ _)) hB)).mono ?_
      rintro e w1 ⟨rfl, nq2, rfl⟩
      go_wp2
      go_ret
      exact ⟨ret_bool hfin.out.symm, up_drewN (Below.refl _ _)⟩
  · have p1 : ((xs.length : Int) != (n : Int)) = true := by simp; omega
    have hfin := hide (show (!okRow n xs) = true by
      cases hh : okRow n xs with
      | false => rfl
      | true => exact absurd (okRow_iff.1 hh).1 hl)
    clear hl z4
    generalize xs.length = p at p1
    go_enter Try.func82, Try.ntmps82
    go_wp2
    go_ret
    exact ⟨ret_bool hfin.out.symm, Below.refl _ _⟩
set_option maxRecDepth 100000 in
set_option maxHeartbeats 1000000 in
theorem ixr_any (bn n q cq : Nat) (a : Option Addr) (ss : List SR) (w : World) (B : Nat) (hB : B ≤ w.heap.size) (hm : ss.length = q) (hE : Row encR 1 w B a ss) (hq : ∀ s ∈ ss, QR w B s) (hk : w.cell? ⟨bn, 0, none⟩ = some (.int .i64 (n : Int))) (hn : 1 ≤ n) (hn2 : n ≤ 64) (hq2 : q ≤ 100000000) :
    Calls Try.prog 130 #[.slice a q cq, .func (.func 82) #[] #[.pointer (some ⟨bn, 0, none⟩)]] w fun e w' => e = .returned (.int .i64 (firstB (ss.map fun s => !okRow n s.xs) 0)) ∧ Below w.heap.size w w' := by
  have hbs : (ss.map fun s => !okRow n s.xs).length = q := by rw [List.length_map, hm]
  have hbg := hide (show ∀ k (h : k < ss.length), (ss.map fun s => !okRow n s.xs)[k]'(by rw [List.length_map]; exact h) = !okRow n ss[k].xs from fun k h => by simp)
  obtain ⟨bs, hbse⟩ : ∃ bs, bs = ss.map fun s => !okRow n s.xs := ⟨_, rfl⟩
  have hbl := hide (show bs.length = q by rw [hbse, hbs])
  have hbb := hide (show ∀ k (h : k < ss.length) (h2 : k < bs.length), bs[k] = !okRow n ss[k].xs from fun k h h2 => by subst hbse; exact hbg.out k h)
  rw [← hbse]
  clear hbs hbg hbse
  replace hE := hide hE
  replace hq := hide hq
  replace hm := hide hm
  have hzn := cell_lt hk
  go_enter Try.func130, Try.ntmps130
  go_wp2
  go_loopw [8] (fun i wr => ∃ k : Nat, k ≤ q ∧ i = .int .i64 k ∧ Hid (firstB bs 0 = firstB (bs.drop k) k) ∧ Hid (Below w.heap.size w wr)) (fun i _ => q - (intOf i).toNat)
  case atStart => exact ⟨0, Nat.zero_le _, rfl, hide rfl, hide (Below.refl _ _)⟩
  case round =>
    obtain ⟨k, hk2, rfl, hrest, hb'⟩ := hrel
    have hz := hb'.out.size
    by_cases hlt : k < q
    · have hk' : k < ss.length := by have := hm.out; omega
      have hk'' : k < bs.length := by have := hbl.out; omega
      obtain ⟨b, o, rfl, hbB, f1⟩ := hE.out k hk'
      have f1 := f1 0 _ rfl
      have f1 : w.cell? ⟨b, o + k, none⟩ = some (.slice ss[k].a ss[k].xs.length ss[k].c) := by simpa using f1
      have f1 := cu_below hb'.out f1 (by simp; omega)
      have hbr : b < wr.heap.size := by omega
      have hq1 := hide ((hq.out _ (List.getElem_mem hk')).below hb'.out hB)
      have hT := hide (fun (w' : World) (hb : Below wr.heap.size wr w') => tab1_any bn n ss[k] w' B (by have := hb.size; omega) (hq1.out.below hb (by omega)) (cu_below hb (cu_below hb'.out hk hzn) (by simp; omega)) hn hn2)
      have hv := hide (hbb.out k hk' hk'')
      have hit := hide (firstB_hit hk'')
      have miss := hide (firstB_miss hk'')
      have ik : (0 : Int) ≤ (k : Int) ∧ (k : Int) < (q : Int) := by omega
      generalize ss[k] = s at f1 hT hv hq1
      obtain ⟨t, ht⟩ : ∃ t, t = !okRow n s.xs := ⟨_, rfl⟩
      rw [← ht] at hT hv
      replace ht := hide ht
      obtain ⟨sa, sc, xs⟩ := s
      simp only at f1 hT
      cases t with
      | true =>
        have hfin := hide (show (k : Int) = firstB bs 0 by rw [hrest.out, hit.out hv.out])
        go_wp2_with fail
        refine (hT.out _ (by first | exact Below.refl _ _ | exact below_drew _)).mono ?_
        rintro e w1 ⟨rfl, hb1⟩
        have hb2 := hide (hb'.out.trans (hb1.mono hz))
        go_wp2
        go_ret
        exact ⟨ret_int hfin.out, hb2.out⟩
      | false =>
        have hnx := hide (show firstB bs 0 = firstB (bs.drop (k + 1)) (k + 1) by rw [hrest.out, miss.out hv.out])
        go_wp2_with fail
        refine (hT.out _ (by first | exact Below.refl _ _ | exact below_drew _)).mono ?_
        rintro e w1 ⟨rfl, hb1⟩
        have hb2 := hide (hb'.out.trans (hb1.mono hz))
        go_wp2
        go_roundw
        case rel => exact ⟨k + 1, by omega, by go_num, hnx, hb2⟩
        case measure => simp [intOf]; omega
    · obtain rfl : k = q := by omega
      have hfin := hide (show -1 = firstB bs 0 by rw [hrest.out, firstB_end (by rw [hbl.out]; exact Nat.le_refl _)])
      go_wp2
      go_ret
      exact ⟨ret_int hfin.out, hb'.out⟩
theorem conr_any (bn n q cq : Nat) (a : Option Addr) (ss : List SR) (w : World) (B : Nat) (hB : B ≤ w.heap.size) (hm : ss.length = q) (hE : Row encR 1 w B a ss) (hq : ∀ s ∈ ss, QR w B s) (hk : w.cell? ⟨bn, 0, none⟩ = some (.int .i64 (n : Int))) (hn : 1 ≤ n) (hn2 : n ≤ 64) (hq2 : q ≤ 100000000) :
    Calls Try.prog 81 #[.slice a q cq, .func (.func 82) #[] #[.pointer (some ⟨bn, 0, none⟩)]] w fun e w' => e = .returned (.bool ((ss.map fun s => !okRow n s.xs).any id)) ∧ Below w.heap.size w w' := by
  have hI := hide (ixr_any bn n q cq a ss w B hB hm hE hq hk hn hn2 hq2)
  have hA := hide (firstB_any (ss.map fun s => !okRow n s.xs) 0)
  clear hE hq hm
  generalize (ss.map fun s => !okRow n s.xs) = bs at hI hA ⊢
  generalize firstB bs 0 = x at hI hA
  go_enter Try.func81, Try.ntmps81
  go_wp2_with fail
  refine hI.out.mono ?_
  rintro e w1 ⟨rfl, hb1⟩
  go_wp2
  go_ret
  exact ⟨ret_bool hA.out, hb1⟩
end Go.Proofs.Ytdpbkhempgghaaa
