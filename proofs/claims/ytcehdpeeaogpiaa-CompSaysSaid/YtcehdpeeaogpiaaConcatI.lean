/-
  slices.Grow of an empty slice and slices.Concat over []int. Conditions: bounds on the lengths.
-/
import Derived.Test.YtcehdpeeaogpiaaPushAll
import Derived.Test.YtcehdpeeaogpiaaROut
import Derived.Lib.AppendZeros
import Derived.LoopTactic
import Derived.WalkSpells
namespace Go.Proofs.Ytcehdpeeaogpiaa
open Go.RowKit
set_option linter.unusedSimpArgs false
set_option linter.unusedVariables false
theorem own_freshI (w : World) (base G : Nat) (hb : base ≤ w.heap.size) (hG : G ≤ maxLen) (R : Array Value) (hR : R.size = G) : Own encI 1 3 (w.alloc (.cells R 3)) base (.slice (some ⟨w.heap.size, 0, none⟩) 0 G) [] := by
  refine ⟨rfl, .inr ⟨w.heap.size, G, R, rfl, hb, ?_, Nat.zero_le _, hG, by omega, by simp⟩⟩
  show (w.heap.push _)[w.heap.size]? = _
  simp
set_option maxHeartbeats 400000 in
theorem growI_any (k : Nat) (w : World) (hk : k ≤ 100000000) :
    Calls Try.prog 209 #[.slice none 0 0, .int .i64 (k : Int)] w fun e w' => ∃ a c, e = .returned (.slice a 0 c) ∧ Own encI 1 3 w' w.heap.size (.slice a 0 c) [] ∧ Below w.heap.size w w' := by
  obtain ⟨i0, hi0, hz0, hzs, hzb⟩ := info_parts info_int
  by_cases h0 : k = 0
  · subst h0
    go_enter Try.func209, Try.ntmps209
    go_wp2
    go_ret
    exact ⟨_, _, rfl, Own.nil _ _, Below.refl _ _⟩
  · obtain ⟨G, hG⟩ : ∃ G, G = grownCap w k 0 3 := ⟨_, rfl⟩
    obtain ⟨R, hR⟩ : ∃ R, R = Builtin.zeroCells (Value.int .i64 0).cells k ++ Builtin.zeroCells (Value.int .i64 0).cells (G - k) := ⟨_, rfl⟩
    have hrz : ∀ ty, (Builtin.append_ #[29, 3] ty #[.slice none 0 0, .int .i64 (k : Int)]).run Try.prog w = .ok (.slice (some ⟨w.heap.size, 0, none⟩) k G) (w.drew.alloc (.cells R 3)) := fun ty => by
      rw [hR, hG]
      exact Lib.run_append_nil_zeros w 29 3 ty 3 i0 _ .i64 .i64 Try.underlying29 Try.underlying3 hi0 hz0 k (by omega) (by omega) (by omega) (by rw [hzb]; omega)
    have hG1 : k ≤ G := by rw [hG]; exact grownCap_ge w _ _ _
    have hG2 : G ≤ maxLen := by rw [hG]; exact grownCap_le_maxLen w k 0 _ (by unfold maxLen; omega)
    have hRs : R.size = G := by
      rw [hR]
      simp [Builtin.zeroCells, Value.cells]
      omega
    have own := hide (own_freshI w.drew w.heap.size G (Nat.le_refl _) hG2 R hRs)
    have hB := hide (show Below w.heap.size w (w.drew.alloc (.cells R 3)) from up_alloc (below_drew w) (Nat.le_refl _))
    obtain ⟨W1, hW1⟩ : ∃ W1, W1 = w.drew.alloc (.cells R 3) := ⟨_, rfl⟩
    rw [← hW1] at hrz own hB
    have hpos : (0 : Int) < (k : Int) := by omega
    clear hW1 hR hG hRs hi0 hz0 hzs hzb
    replace hrz := hide hrz
    replace hG2 := hide hG2
    go_enter Try.func209, Try.ntmps209
    go_wp2_with (at_builtin; refine Lib.wpList_append_run _ rfl (.tmp 20) (.tmp 21) 29 3 rfl _ _ rfl rfl _ _ (hrz.out _) ?_)
    go_ret
    exact ⟨_, _, rfl, own.out, hB.out⟩
theorem flat_take_succI {xss : List (List Int)} {k : Nat} (h : k < xss.length) : (xss.take (k + 1)).flatten = (xss.take k).flatten ++ xss[k] := by
  rw [List.take_succ_eq_append_getElem h, List.flatten_append]
  simp
theorem flat_take_leI (xss : List (List Int)) (k : Nat) : (xss.take k).flatten.length ≤ xss.flatten.length := by
  have h : xss.flatten = (xss.take k).flatten ++ (xss.drop k).flatten := by rw [← List.flatten_append, List.take_append_drop]
  rw [h, List.length_append]
  omega
set_option maxRecDepth 100000 in
set_option maxHeartbeats 1000000 in
theorem concatI_any (q oc : Nat) (ao : Option Addr) (ss : List S3) (xss : List (List Int)) (w : World) (B : Nat) (hB : B ≤ w.heap.size) (hq : ss.length = q) (hx : xss.length = q) (hR : Row encS 1 w B ao ss) (hin : ∀ i (h : i < q), (ss[i]'(by omega)).n = (xss[i]'(by omega)).length ∧ Row encI 1 w B (ss[i]'(by omega)).a (xss[i]'(by omega))) (hq1 : q ≤ 1000000) (hl : xss.flatten.length ≤ 100000000) :
    Calls Try.prog 179 #[.slice ao q oc] w fun e w' => ∃ v, e = .returned v ∧ Own encI 1 3 w' w.heap.size v xss.flatten ∧ Below w.heap.size w w' := by
  have hle := hide (flat_take_leI xss)
  replace hin := hide hin
  replace hR := hide hR
  replace hq := hide hq
  replace hx := hide hx
  have hcell := hide (show ∀ k, k < q → ∃ b o, ao = some ⟨b, o, none⟩ ∧ b < B ∧ ∃ (s : S3) (xs : List Int), w.cell? ⟨b, o + k, none⟩ = some (.slice s.a s.n s.c) ∧ s.n = xs.length ∧ Row encI 1 w B s.a xs ∧ (xss.take (k + 1)).flatten = (xss.take k).flatten ++ xs from fun k hk => by
    have h1 : k < ss.length := by have := hq.out; omega
    have h2 : k < xss.length := by have := hx.out; omega
    obtain ⟨b, o, e1, e2, e3⟩ := hR.out k h1
    obtain ⟨g1, g2⟩ := hin.out k hk
    refine ⟨b, o, e1, e2, ss[k], xss[k], ?_, g1, g2, flat_take_succI h2⟩
    simpa using e3 0 _ rfl)
  have hall := hide (show (xss.take q).flatten = xss.flatten by rw [List.take_of_length_le (by have := hx.out; omega)])
  clear hin hR
  go_enter Try.func179, Try.ntmps179
  go_wp2
  go_loop [3, 5, 11] (fun s3 _ s11 => ∃ (k m : Nat), k ≤ q ∧ s11 = .int .i64 k ∧ s3 = .int .i64 m ∧ m ≤ 100000000 ∧ Hid ((xss.take k).flatten.length = m)) (fun _ _ s11 => q - (intOf s11).toNat)
  case atStart => exact ⟨0, 0, Nat.zero_le _, rfl, rfl, by omega, by simp [Hid]⟩
  case round =>
    obtain ⟨k, m, hk, rfl, rfl, hm, hs⟩ := hrel
    by_cases hlt : k < q
    · obtain ⟨b, o, rfl, hb, s, xs, e1, e2, e3, e4⟩ := hcell.out k hlt
      have hb1 : b < w.heap.size := by omega
      have hle1 := hle.out (k + 1)
      have hs1 := hide (show (xss.take (k + 1)).flatten.length = m + s.n by rw [e4, List.length_append, hs.out, e2])
      have hsl : s.n ≤ 100000000 := by have := hs1.out; omega
      have hsm : m + s.n ≤ 100000000 := by have := hs1.out; omega
      have ik : (0 : Int) ≤ (k : Int) ∧ (k : Int) < (q : Int) := by omega
      obtain ⟨sa, sn, sc⟩ := s
      simp only at e1 hs1 hsl hsm
      clear hle1 e2 e3 e4
      go_wp2
      go_round
      case rel => exact ⟨k + 1, m + sn, by omega, by go_num, by go_num, hsm, hs1⟩
      case measure => simp [intOf]; omega
    · obtain rfl : q = k := by omega
      have hs1 := hide (show xss.flatten.length = m by rw [← hall.out]; exact hs.out)
      have hml := hide (hle.out)
      clear hs
      go_wp2_with fail
      refine (growI_any m w hm).mono ?_
      rintro e w1 ⟨a1, c1, rfl, own1, hb1⟩
      have hz1 := hb1.size
      replace own1 := hide own1
      replace hb1 := hide hb1
      go_wp2
      go_loopw [6, 8, 27] (fun s6 _ s27 wr => ∃ (k m : Nat) (av : Option Addr) (cv : Nat), k ≤ q ∧ s27 = .int .i64 k ∧ s6 = .slice av m cv ∧ m ≤ 100000000 ∧ Hid ((xss.take k).flatten.length = m) ∧ Hid (Own encI 1 3 wr w.heap.size (.slice av m cv) (xss.take k).flatten) ∧ Hid (Below w.heap.size w wr)) (fun _ _ s27 _ => q - (intOf s27).toNat)
      case atStart => exact ⟨0, 0, a1, c1, Nat.zero_le _, rfl, rfl, by omega, by simp [Hid], hide (by simpa using own1.out), hb1⟩
      case round =>
        clear own1 hb1
        obtain ⟨k, m, av, cv, hk, rfl, rfl, hm, hs, own, hbr⟩ := hrel
        have hzr := hbr.out.size
        by_cases hlt : k < q
        · obtain ⟨b, o, rfl, hb, s, xs, e1, e2, e3, e4⟩ := hcell.out k hlt
          have e1 := cu_below hbr.out e1 (by simp; omega)
          have hb1 : b < wr.heap.size := by omega
          have hle1 := hle.out (k + 1)
          have hs1 := hide (show (xss.take (k + 1)).flatten.length = m + s.n by rw [e4, List.length_append, hs.out, e2])
          have hsl : s.n ≤ 100000000 := by have := hs1.out; omega
          have hsm : m + s.n ≤ 100000000 := by have := hs1.out; omega
          have ik : (0 : Int) ≤ (k : Int) ∧ (k : Int) < (q : Int) := by omega
          have hr := hide (e3.below hbr.out (by omega))
          obtain ⟨sa, sn, sc⟩ := s
          simp only at e1 hs1 hsl hsm hr e2
          replace e2 := hide e2
          replace e4 := hide e4
          clear hle1 e3
          go_wp2_with (at_builtin; (refine wpList_all rfl (.tmp 31) (.tmp 32) 29 rfl _ 8 Try.underlying29 info_int rfl ?d1 lenI oneI m ?d2 rfl own.out B sa sn sc xs ?d3 rfl hr.out ?d4 ?d5 ?d6 ?_); (case d1 => omega); (case d2 => exact hs.out); (case d3 => exact e2.out.symm); (case d4 => omega); (case d5 => unfold maxLen; omega); (case d6 => omega); intro a4 c4 w4 own4 hb4 hg4; have hb5 := hide (hbr.out.trans hb4); rw [← e4.out] at own4; replace own4 := hide own4; replace hb4 := hide hb4; replace hg4 := hide hg4)
          go_roundw
          case rel => exact ⟨k + 1, m + sn, a4, c4, by omega, by go_num, rfl, hsm, hs1, own4, hb5⟩
          case measure => simp [intOf]; omega
        · obtain rfl : k = q := by omega
          have hf := hide (show Own encI 1 3 wr w.heap.size (.slice av m cv) xss.flatten by rw [← hall.out]; exact own.out)
          clear own hs
          go_wp2
          go_ret
          exact ⟨_, rfl, hf.out, hbr.out⟩
end Go.Proofs.Ytcehdpeeaogpiaa
