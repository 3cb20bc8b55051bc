/-
  The place before, sought by the least edges: where the reference's search stops. No program here.
-/
import Derived.Test.YtcehdpeeaogpiaaWayP
import Derived.Test.YtcehdpeeaogpiaaWEdge
import Derived.Test.YtcehdpeeaogpiaaStart
namespace Go.Proofs.Ytcehdpeeaogpiaa
set_option linter.unusedVariables false
theorem minE_fold (u v : Int) : ∀ (es : List Ed) (a : Int), es.foldl (fun a e => if e.u = u ∧ e.v = v then min a e.c else a) a ≤ a ∧
    (∀ e ∈ es, e.u = u → e.v = v → es.foldl (fun a e => if e.u = u ∧ e.v = v then min a e.c else a) a ≤ e.c) ∧
    (es.foldl (fun a e => if e.u = u ∧ e.v = v then min a e.c else a) a = a ∨ ∃ e ∈ es, e.u = u ∧ e.v = v ∧ e.c = es.foldl (fun a e => if e.u = u ∧ e.v = v then min a e.c else a) a)
  | [], a => ⟨Int.le_refl _, by simp, .inl rfl⟩
  | x :: r, a => by
    simp only [List.foldl_cons]
    by_cases q : x.u = u ∧ x.v = v
    · rw [if_pos q]
      obtain ⟨h1, h2, h3⟩ := minE_fold u v r (min a x.c)
      refine ⟨by omega, fun e he h4 h5 => ?_, ?_⟩
      · rcases List.mem_cons.1 he with rfl | he
        · omega
        · exact h2 e he h4 h5
      · rcases h3 with h3 | ⟨e, he, h4, h5, h6⟩
        · rcases Int.le_total a x.c with hh | hh
          · left; rw [h3]; omega
          · right; exact ⟨x, List.mem_cons_self .., q.1, q.2, by rw [h3]; omega⟩
        · right; exact ⟨e, List.mem_cons_of_mem _ he, h4, h5, h6⟩
    · rw [if_neg q]
      obtain ⟨h1, h2, h3⟩ := minE_fold u v r a
      refine ⟨h1, fun e he h4 h5 => ?_, ?_⟩
      · rcases List.mem_cons.1 he with rfl | he
        · exact absurd ⟨h4, h5⟩ q
        · exact h2 e he h4 h5
      · rcases h3 with h3 | ⟨e, he, h4⟩
        · exact .inl h3
        · exact .inr ⟨e, List.mem_cons_of_mem _ he, h4⟩
/-- the search stops here -/
def Stops (es : List Ed) (d : Nat → Int) (v k : Nat) : Prop := minE (k : Int) (v : Int) es ≠ FAR ∧ d k ≠ FAR ∧ d k + minE (k : Int) (v : Int) es = d v
theorem stops_ge {n : Nat} {es : List Ed} {d : Nat → Int} {v k : Nat} (h : Stops es d v k) : prevF n (nes es) d v ≤ k := by
  obtain ⟨h1, h2, h3⟩ := h
  rcases (minE_fold (k : Int) (v : Int) es FAR).2.2 with h4 | ⟨e, he, h5, h6, h7⟩
  · exact absurd h4 h1
  · refine Nat.le_trans ((prev_fold (d := d) (v := v) (nes es) n).2.1 ⟨e.u.toNat, e.v.toNat, e.c⟩ (List.mem_map.2 ⟨e, he, rfl⟩) (by simp [h6]) ?_) (by simp [h5])
    simp only [h5, Int.toNat_natCast]
    have h8 : e.c = minE (k : Int) (v : Int) es := h7
    rw [h8]; exact h3
theorem stops_at {n : Nat} {es : List Ed} {f v : Nat} (hes : Right n es) (hpos : ∀ e ∈ es, 1 ≤ e.c) (hE : ∀ e ∈ nes es, e.u < n ∧ e.v < n ∧ 1 ≤ e.c) (hf : f < n) (hv : v < n) (hlt : distF n es f v < FAR) (hne : v ≠ f) :
    Stops es (distF n es f) v (prevF n (nes es) (distF n es f) v) := by
  obtain ⟨p1, p2, e, he, h3, h4, h5⟩ := prev_is hE hf hv hlt hne
  obtain ⟨x, hx, rfl⟩ := nes_mem he
  have hr := hes x hx
  simp only at h3 h4 h5
  have hk : x.u = ((prevF n (nes es) (distF n es f) v : Nat) : Int) := by
    have : x.u.toNat = prevF n (nes es) (distF n es f) v := h4
    omega
  have hvv : x.v = (v : Int) := by omega
  obtain ⟨m1, m2, m3⟩ := minE_fold ((prevF n (nes es) (distF n es f) v : Nat) : Int) (v : Int) es FAR
  have hm := m2 x hx hk hvv
  have hm' : minE ((prevF n (nes es) (distF n es f) v : Nat) : Int) (v : Int) es ≤ x.c := hm
  have hF : FAR = 1099511627776 := rfl
  have p2' : distF n es f (prevF n (nes es) (distF n es f) v) < distF n es f v := p2
  have h5' : distF n es f (prevF n (nes es) (distF n es f) v) + x.c = distF n es f v := by
    have h6 : x.u.toNat = prevF n (nes es) (distF n es f) v := h4
    rw [← h6]; exact h5
  refine ⟨by omega, by omega, ?_⟩
  rcases m3 with m3 | ⟨y, hy, y1, y2, y3⟩
  · exfalso
    have : minE ((prevF n (nes es) (distF n es f) v : Nat) : Int) (v : Int) es = FAR := m3
    omega
  · have hfe := (spread_feas hE hf).1 ⟨y.u.toNat, y.v.toNat, y.c⟩ (List.mem_map.2 ⟨y, hy, rfl⟩)
    simp only [y1, y2, Int.toNat_natCast] at hfe
    have hfe2 : distF n es f (prevF n (nes es) (distF n es f) v) < FAR → distF n es f v ≤ distF n es f (prevF n (nes es) (distF n es f) v) + y.c := hfe
    have y3' : y.c = minE ((prevF n (nes es) (distF n es f) v : Nat) : Int) (v : Int) es := y3
    have := hfe2 (by omega)
    omega
/-- one more in front -/
def frontL (b : Nat → Nat) (i : Nat) : List Int := (List.range (i + 1)).map fun j => ((b (i - j) : Nat) : Int)
theorem frontL_len (b : Nat → Nat) (i : Nat) : (frontL b i).length = i + 1 := by simp [frontL]
theorem frontL_succ (b : Nat → Nat) (i : Nat) : frontL b (i + 1) = ((b (i + 1) : Nat) : Int) :: frontL b i := by
  unfold frontL
  rw [List.range_succ_eq_map, List.map_cons, List.map_map]
  simp only [Nat.sub_zero]
  congr 1
  apply List.map_congr_left
  intro j _
  simp
end Go.Proofs.Ytcehdpeeaogpiaa
