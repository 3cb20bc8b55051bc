/-
  Plain laws for maps that are read: what the program asks of the text, byte by byte, is that it is what a right grid prints. No condition.
-/
import Derived.Test.YtccailcjclbhlaaDoorRMap
import Derived.Lib.IndexLaws
import Derived.Lib.IndexBytes
import Derived.Lib.SplitLaws
import Derived.Lib.Split
namespace Go.Proofs.YtccailcjclbhlaaDoor
open Go.RowKit
set_option linter.unusedSimpArgs false
set_option linter.unusedVariables false
def signs : List UInt8 := [35, 49, 50, 51, 52, 53, 54, 55, 56, 57]
/-- which of the signs a byte is -/
def sgI (b : UInt8) : Int := Lib.indexByte signs b
theorem sgI_ch {c : Int} (h0 : 0 ≤ c) (h1 : c ≤ 9) : sgI (chU c) = c := by
  have : c = 0 ∨ c = 1 ∨ c = 2 ∨ c = 3 ∨ c = 4 ∨ c = 5 ∨ c = 6 ∨ c = 7 ∨ c = 8 ∨ c = 9 := by omega
  rcases this with rfl | rfl | rfl | rfl | rfl | rfl | rfl | rfl | rfl | rfl <;> decide
theorem sgI_line : sgI 10 = -1 := by decide
theorem sgI_bd (b : UInt8) : -1 ≤ sgI b ∧ sgI b ≤ 9 := by
  refine ⟨Lib.indexByte_ge _ _, ?_⟩
  unfold sgI
  rcases Int.lt_or_le (Lib.indexByte signs b) 0 with h | h
  · omega
  · obtain ⟨o, ho⟩ := Int.eq_ofNat_of_zero_le h
    have := (Lib.indexByte_some ho).1
    have h2 : o < signs.length := by
      rcases Nat.lt_or_ge o signs.length with h3 | h3
      · exact h3
      · rw [List.getElem?_eq_none h3] at this; cases this
    have : signs.length = 10 := rfl
    omega
theorem ch_sgI {b : UInt8} (h : 0 ≤ sgI b) : chU (sgI b) = b := by
  obtain ⟨o, ho⟩ := Int.eq_ofNat_of_zero_le h
  have h1 := (Lib.indexByte_some (show Lib.indexByte signs b = (o : Int) from ho)).1
  unfold chU
  rw [ho, Int.toNat_natCast, List.getD_eq_getElem?_getD]
  change (signs[o]?).getD 0 = b
  rw [h1]
  rfl
theorem sg_ne {b : UInt8} (h : 0 ≤ sgI b) : b ≠ 10 := by
  rintro rfl
  rw [sgI_line] at h
  omega
/-- the signs of a text, as numbers -/
def cellsL (l : List UInt8) : List Int := (l.map sgI).filter (fun c => decide (0 ≤ c))
theorem cellsL_app (a b : List UInt8) : cellsL (a ++ b) = cellsL a ++ cellsL b := by simp [cellsL]
theorem cellsL_yes {b : UInt8} (h : 0 ≤ sgI b) : cellsL [b] = [sgI b] := by simp [cellsL, h]
theorem cellsL_no {b : UInt8} (h : ¬ 0 ≤ sgI b) : cellsL [b] = [] := by simp [cellsL, h]
theorem cellsL_step {l : List UInt8} {k : Nat} (h : k < l.length) : cellsL (l.take (k + 1)) = if 0 ≤ sgI l[k] then cellsL (l.take k) ++ [sgI l[k]] else cellsL (l.take k) := by
  rw [List.take_succ_eq_append_getElem h, cellsL_app]
  by_cases q : 0 ≤ sgI l[k]
  · rw [if_pos q, cellsL_yes q]
  · rw [if_neg q, cellsL_no q, List.append_nil]
theorem cellsL_bd (l : List UInt8) : ∀ c ∈ cellsL l, 0 ≤ c ∧ c ≤ 9 := by
  intro c hc
  unfold cellsL at hc
  obtain ⟨h1, h2⟩ := List.mem_filter.1 hc
  obtain ⟨b, _, rfl⟩ := List.mem_map.1 h1
  exact ⟨by simpa using h2, (sgI_bd b).2⟩
theorem cellsL_len (l : List UInt8) : (cellsL l).length ≤ l.length := by
  unfold cellsL
  exact Nat.le_trans (List.length_filter_le _ _) (by simp)
/-- what the program asks of each byte -/
def rdAt (W : Nat) (l : List UInt8) (i : Nat) : Prop := ∀ b, l[i]? = some b → (i % (W + 1) = W → b = 10) ∧ (i % (W + 1) ≠ W → 0 ≤ sgI b)
def rdOk (W : Nat) (l : List UInt8) : Prop := ∀ i, i < l.length → rdAt W l i
theorem divmod_at (W y x : Nat) (hx : x ≤ W) : ((W + 1) * y + x) % (W + 1) = x ∧ ((W + 1) * y + x) / (W + 1) = y := by
  constructor
  · rw [Nat.mul_add_mod, Nat.mod_eq_of_lt (by omega)]
  · rw [Nat.mul_add_div (by omega), Nat.div_eq_of_lt (by omega), Nat.add_zero]
/-- as far as it is right, it is what is printed -/
theorem rd_upto {W : Nat} {l : List UInt8} (hW : 1 ≤ W) (h : rdOk W l) : ∀ k, k ≤ l.length → ∃ y x, k = (W + 1) * y + x ∧ x ≤ W ∧ (cellsL (l.take k)).length = y * W + x ∧ rowTo W (cellsL l) y x = l.take k ∧ (l.take k).count 10 = y
  | 0, _ => ⟨0, 0, by omega, by omega, by simp [cellsL], by simp [rowTo, printTo], by simp⟩
  | k + 1, hk => by
    obtain ⟨y, x, h1, h2, h3, h4, h5⟩ := rd_upto hW h k (by omega)
    obtain ⟨m1, m2⟩ := divmod_at W y x h2
    subst h1
    have hkl : (W + 1) * y + x < l.length := by omega
    have ha := h _ hkl l[(W + 1) * y + x] (List.getElem?_eq_getElem hkl)
    rw [m1] at ha
    have hst := cellsL_step hkl
    have htk : l.take ((W + 1) * y + x + 1) = l.take ((W + 1) * y + x) ++ [l[(W + 1) * y + x]] := List.take_succ_eq_append_getElem hkl
    rcases Nat.lt_or_ge x W with hx | hx
    · have hs := ha.2 (by omega)
      refine ⟨y, x + 1, by omega, by omega, ?_, ?_, ?_⟩
      · rw [hst, if_pos hs, List.length_append, h3]; rfl
      · rw [rowTo_succ, h4, htk]
        congr 2
        have h6 : cellsL l = cellsL (l.take ((W + 1) * y + x)) ++ ([sgI l[(W + 1) * y + x]] ++ cellsL (l.drop ((W + 1) * y + x + 1))) := by
          rw [← cellsL_yes hs, ← cellsL_app, ← cellsL_app]
          congr 1
          simp
        rw [h6, List.getD_eq_getElem?_getD, List.getElem?_append_right (by omega), h3, Nat.sub_self]
        simp
        exact ch_sgI hs
      · rw [htk, List.count_append, h5, List.count_singleton, if_neg (by simpa using sg_ne hs), Nat.add_zero]
    · have hxW : x = W := by omega
      subst hxW
      have hl := ha.1 rfl
      refine ⟨y + 1, 0, by rw [Nat.mul_succ]; omega, by omega, ?_, ?_, ?_⟩
      · rw [hst, if_neg (by rw [hl, sgI_line]; omega), h3, Nat.succ_mul]
        omega
      · rw [rowTo_zero, ← rowTo_end x (cellsL l) y hW, h4, htk, hl]
      · rw [htk, List.count_append, h5, hl]; simp
/-- what the program asks of the whole text -/
structure RdAll (l : List UInt8) (W : Nat) : Prop where
  ix : Lib.indexByte l 10 = (W : Int)
  lo : 1 ≤ W
  hi : W ≤ 8
  md : l.length % (W + 1) = 0
  dv : l.length / (W + 1) ≤ 8
  ok : rdOk W l
theorem rd_good {l : List UInt8} {W : Nat} (h : RdAll l W) : l.count 10 = l.length / (W + 1) ∧ gridErr (W : Int) ((l.length / (W + 1) : Nat) : Int) (cellsL l) = 0 ∧ printTo W (cellsL l) (cellsL l).length = l := by
  obtain ⟨y, x, h1, h2, h3, h4, h5⟩ := rd_upto h.lo h.ok l.length (Nat.le_refl _)
  obtain ⟨m1, m2⟩ := divmod_at W y x h2
  rw [← h1] at m1 m2
  have hx : x = 0 := by rw [← m1]; exact h.md
  subst hx
  rw [List.take_length] at h3 h4 h5
  have hy1 : 1 ≤ y := by
    have h6 := (Lib.indexByte_some h.ix).1
    have : W < l.length := by
      rcases Nat.lt_or_ge W l.length with h7 | h7
      · exact h7
      · rw [List.getElem?_eq_none h7] at h6; cases h6
    rcases Nat.lt_or_ge 0 y with h7 | h7
    · exact h7
    · have : y = 0 := by omega
      subst this
      omega
  have hdv := h.dv
  rw [m2] at hdv ⊢
  have hlo := h.lo
  have hhi := h.hi
  refine ⟨h5, ?_, ?_⟩
  · unfold gridErr
    rw [if_neg (by omega), if_neg]
    · have key : ∀ cs : List Int, (∀ c ∈ cs, 0 ≤ c ∧ c ≤ 9) → cellsErr cs = 0 := by
        intro cs
        induction cs with
        | nil => intro _; rfl
        | cons c r ih =>
          intro hc
          have := hc c List.mem_cons_self
          rw [cellsErr, if_neg (by omega)]
          exact ih (fun d hd => hc d (List.mem_cons_of_mem _ hd))
      exact key _ (cellsL_bd l)
    · rw [h3, Nat.add_zero]
      simp [Int.mul_comm]
  · rw [h3, Nat.add_zero, ← rowTo_zero]
    exact h4
theorem printTo_pre (W : Int) (cs : List Int) (a b : Nat) : ∃ r, printTo W cs (a + b) = printTo W cs a ++ r := by
  unfold printTo
  rw [List.range_add, List.flatMap_append]
  exact ⟨_, rfl⟩
theorem rowTo_len2 (n : Nat) (cs : List Int) (hn : 1 ≤ n) : ∀ Y, (printTo n cs (Y * n)).length = Y * (n + 1)
  | 0 => by simp [printTo]
  | Y + 1 => by
    rw [← rowTo_end n cs Y hn, List.length_append, rowTo, List.length_append, rowTo_len2 n cs hn Y, List.length_map, List.length_range, Nat.succ_mul]
    simp
    omega
theorem row_get {W H : Nat} {cs : List Int} (hW : 1 ≤ W) {y x : Nat} (hy : y < H) (hx : x ≤ W) : (printTo W cs (H * W))[(W + 1) * y + x]? = some (if x < W then chU (cs.getD (y * W + x) 0) else 10) := by
  obtain ⟨r, hr⟩ := printTo_pre W cs ((y + 1) * W) ((H - (y + 1)) * W)
  have e : (y + 1) * W + (H - (y + 1)) * W = H * W := by rw [← Nat.add_mul]; congr 1; omega
  rw [e] at hr
  rw [hr, ← rowTo_end W cs y hW, rowTo]
  have hl := rowTo_len2 W cs hW y
  have hc : y * (W + 1) = (W + 1) * y := Nat.mul_comm _ _
  rw [List.append_assoc, List.append_assoc, List.getElem?_append_right (by omega), hl, show (W + 1) * y + x - y * (W + 1) = x by omega]
  by_cases q : x < W
  · rw [if_pos q, List.getElem?_append_left (by simpa using q)]
    simp [q]
  · have : x = W := by omega
    subst this
    rw [if_neg q, List.getElem?_append_right (by simp)]
    simp
theorem idx_of {l : List UInt8} {W : Nat} (h1 : l[W]? = some 10) (h2 : ∀ k, k < W → l[k]? ≠ some 10) : Lib.indexByte l 10 = (W : Int) := by
  rcases Int.lt_or_le (Lib.indexByte l 10) 0 with h | h
  · have := Lib.indexByte_ge l 10
    exact absurd h1 (Lib.indexByte_none (by omega) W)
  · obtain ⟨o, ho⟩ := Int.eq_ofNat_of_zero_le h
    obtain ⟨h3, h4⟩ := Lib.indexByte_some ho
    rw [ho]
    rcases Nat.lt_trichotomy o W with h5 | h5 | h5
    · exact absurd h3 (h2 o h5)
    · rw [h5]
    · exact absurd h1 (h4 W h5)
theorem rd_back {l : List UInt8} {W H : Nat} (hg : gridErr (W : Int) (H : Int) (cellsL l) = 0) (hp : printTo W (cellsL l) (cellsL l).length = l) : RdAll l W := by
  obtain ⟨b1, b2, b3, b4, b5, b6⟩ := gridErr_ok hg
  have hlen : (cellsL l).length = H * W := by
    have : ((cellsL l).length : Int) = ((H * W : Nat) : Int) := by rw [b5]; simp [Int.mul_comm]
    omega
  have hW : 1 ≤ W := by omega
  rw [hlen] at hp
  have hl : l.length = (W + 1) * H := by rw [← hp, rowTo_len2 W _ hW H, Nat.mul_comm]
  have hget : ∀ y x, y < H → x ≤ W → l[(W + 1) * y + x]? = some (if x < W then chU ((cellsL l).getD (y * W + x) 0) else 10) := fun y x hy hx => by
    have := row_get (cs := cellsL l) hW hy hx
    rwa [hp] at this
  have hsg : ∀ j, 0 ≤ sgI (chU ((cellsL l).getD j 0)) := fun j => by
    have := ground_bd' (cellsL_bd l) j
    rw [sgI_ch this.1 this.2]
    exact this.1
  refine ⟨idx_of ?_ ?_, hW, by omega, by rw [hl]; simp, by rw [hl, Nat.mul_div_cancel_left H (by omega)]; omega, ?_⟩
  · have := hget 0 W (by omega) (Nat.le_refl _)
    rw [if_neg (by omega)] at this
    simpa using this
  · intro k hk e
    have := hget 0 k (by omega) (by omega)
    rw [if_pos hk] at this
    simp only [Nat.mul_zero, Nat.zero_add, Nat.zero_mul] at this
    rw [this] at e
    have h2 := hsg k
    rw [Option.some.inj e, sgI_line] at h2
    omega
  · intro i hi b hb
    have hy : i / (W + 1) < H := Nat.div_lt_of_lt_mul (by omega)
    have hx : i % (W + 1) < W + 1 := Nat.mod_lt _ (by omega)
    have := hget (i / (W + 1)) (i % (W + 1)) hy (by omega)
    rw [Nat.div_add_mod] at this
    rw [hb] at this
    have := Option.some.inj this
    constructor
    · intro hq
      rw [if_neg (by omega)] at this
      exact this
    · intro hq
      rw [if_pos (by omega)] at this
      rw [this]
      exact hsg _
/-- what the reference asks -/
def refOk (l : List UInt8) (W H : Int) : Prop := gridErr W H (cellsL l) = 0 ∧ printTo W (cellsL l) (cellsL l).length = l
theorem ref_iff {l : List UInt8} {W : Nat} (hW : (W : Int) = Lib.indexByte l 10) : refOk l W ((l.count 10 : Nat) : Int) ↔ RdAll l W := by
  constructor
  · rintro ⟨h1, h2⟩
    exact rd_back h1 h2
  · intro h
    obtain ⟨h1, h2, h3⟩ := rd_good h
    exact ⟨by rw [h1]; exact h2, h3⟩
/-- without a line's end there is no grid -/
theorem ref_none {l : List UInt8} (h : Lib.indexByte l 10 = -1) (W H : Nat) : ¬ refOk l W H := by
  rintro ⟨h1, h2⟩
  have := (rd_back h1 h2).ix
  omega
end Go.Proofs.YtccailcjclbhlaaDoor
