/-
  The way back that comes to itself, as a list: no place twice, and it costs less than nothing. No program here.
-/
import Derived.Test.YtgkiipmeigfjnaaCycP
import Derived.Test.YtgkiipmeigfjnaaWCost
namespace Go.Proofs.Ytgkiipmeigfjnaa
set_option linter.unusedVariables false

theorem nodup_short : ∀ (n : Nat) (l : List Nat), l.Nodup → (∀ x ∈ l, x < n) → l.length ≤ n
  | 0, l, _, h => by
    cases l with
    | nil => simp
    | cons x r => have := h x (List.mem_cons_self ..); omega
  | n + 1, l, hd, h => by
    have h1 := nodup_short n (l.erase n) (hd.erase n) (fun x hx => by
      have h2 := (List.Nodup.mem_erase_iff hd).1 hx
      have := h x h2.2
      have := h2.1
      omega)
    rw [List.length_erase] at h1
    split at h1 <;> omega
theorem pigeon {n : Nat} (f : Nat → Nat) (h : ∀ i, i ≤ n → f i < n) : ∃ i j, i < j ∧ j ≤ n ∧ f i = f j := by
  refine Classical.byContradiction fun hno => ?_
  have hd : ((List.range (n + 1)).map f).Nodup := by
    rw [List.nodup_iff_pairwise_ne, List.pairwise_iff_getElem]
    intro i j hi hj hij
    simp only [List.length_map, List.length_range] at hi hj
    simp only [List.getElem_map, List.getElem_range]
    intro e
    exact hno ⟨i, j, hij, by omega, e⟩
  have := nodup_short n _ hd (fun x hx => by
    obtain ⟨i, hi, rfl⟩ := List.mem_map.1 hx
    exact h i (by have := List.mem_range.1 hi; omega))
  simp at this
  omega
theorem itb_add (p : Nat → Int) (a b x : Nat) : itb p (a + b) x = itb p a (itb p b x) := by
  induction a with
  | zero => simp [itb]
  | succ a ih => rw [show a + 1 + b = (a + b) + 1 by omega]; simp only [itb]; rw [ih]
theorem least_ex {P : Nat → Prop} : ∀ q, P q → ∃ k, P k ∧ ∀ j, j < k → ¬ P j := by
  intro q
  induction q using Nat.strongRecOn with
  | _ q ih =>
    intro h
    by_cases hs : ∃ j, j < q ∧ P j
    · obtain ⟨j, h1, h2⟩ := hs
      exact ih j h1 h2
    · exact ⟨q, h, fun j hj hp => hs ⟨j, hj, hp⟩⟩
/-- n steps back from the last stand on a way that comes to itself -/
theorem comes_back {n : Nat} {p : Nat → Int} {x : Nat} (hx : x < n) (hp : ∀ y, 0 ≤ p y → p y < (n : Int)) (hok : Okb p n x) :
    ∃ K, 0 < K ∧ K ≤ n ∧ itb p K (itb p n x) = itb p n x ∧ (∀ j, 0 < j → j < K → itb p j (itb p n x) ≠ itb p n x) ∧ (∀ k, 0 ≤ p (itb p k (itb p n x))) ∧ ∀ k, itb p k (itb p n x) < n := by
  have hlt0 : ∀ k, k ≤ n → itb p k x < n := by
    intro k
    induction k with
    | zero => intro _; exact hx
    | succ k ih =>
      intro hk
      have h1 := hok k (by omega)
      have h2 := hp _ h1
      simp only [itb, pk]
      omega
  obtain ⟨i, j, hij, hjn, he⟩ := pigeon (fun k => itb p k x) hlt0
  have hper : ∀ t, j ≤ t → itb p t x = itb p (t - (j - i)) x := by
    intro t ht
    have a1 : itb p t x = itb p (t - j) (itb p j x) := by rw [← itb_add]; congr 1; omega
    have a2 : itb p (t - (j - i)) x = itb p (t - j) (itb p i x) := by rw [← itb_add]; congr 1; omega
    rw [a1, a2]
    rw [he]
  have hall : ∀ t, 0 ≤ p (itb p t x) := by
    intro t
    induction t using Nat.strongRecOn with
    | _ t ih =>
      rcases Nat.lt_or_ge t n with h | h
      · exact hok t h
      · rw [hper t (by omega)]
        exact ih _ (by omega)
  have hlt : ∀ t, itb p t x < n := by
    intro t
    cases t with
    | zero => exact hx
    | succ t =>
      have h1 := hall t
      have h2 := hp _ h1
      simp only [itb, pk]
      omega
  have hq : itb p (j - i) (itb p n x) = itb p n x := by
    rw [← itb_add, hper (j - i + n) (by omega)]
    congr 1
    omega
  obtain ⟨K, ⟨hK0, hK⟩, hmin⟩ := least_ex (P := fun k => 0 < k ∧ itb p k (itb p n x) = itb p n x) (j - i) ⟨by omega, hq⟩
  refine ⟨K, hK0, ?_, hK, fun m h1 h2 h3 => hmin m h2 ⟨h1, h3⟩, fun k => by rw [← itb_add]; exact hall _, fun k => by rw [← itb_add]; exact hlt _⟩
  rcases Nat.lt_or_ge (j - i) K with h | h
  · exact absurd ⟨by omega, hq⟩ (hmin _ h)
  · omega
/-- the places of the way, in the order of the steps back -/
def cycL (p : Nat → Int) (k v : Nat) : List Int := (List.range k).map fun m => ((itb p m v : Nat) : Int)
theorem cycL_len (p : Nat → Int) (k v : Nat) : (cycL p k v).length = k := by simp [cycL]
theorem cycL_succ (p : Nat → Int) (k v : Nat) : cycL p (k + 1) v = cycL p k v ++ [((itb p k v : Nat) : Int)] := by simp [cycL, List.range_succ]
theorem cycL_get (p : Nat → Int) (k v i : Nat) (h : i < (cycL p k v).length) : (cycL p k v)[i] = ((itb p i v : Nat) : Int) := by simp [cycL]
theorem cyc_apart {p : Nat → Int} {K v : Nat} (hK : itb p K v = v) (hmin : ∀ j, 0 < j → j < K → itb p j v ≠ v) {a b : Nat} (hab : a < b) (hb : b < K) : itb p a v ≠ itb p b v := by
  intro e
  refine hmin (K - b + a) (by omega) (by omega) ?_
  rw [itb_add, e, ← itb_add, show K - b + b = K by omega, hK]
/-- the walk round -/
def roundL (p : Nat → Int) (K x : Nat) : List Int := (List.range (K + 1)).map fun m => ((itb p (K - m) x : Nat) : Int)
theorem roundL_len (p : Nat → Int) (K x : Nat) : (roundL p K x).length = K + 1 := by simp [roundL]
theorem roundL_get (p : Nat → Int) (K x i : Nat) (h : i < (roundL p K x).length) : (roundL p K x)[i] = ((itb p (K - i) x : Nat) : Int) := by simp [roundL]
theorem round_is {p : Nat → Int} {K v : Nat} (h0 : 0 < K) (hK : itb p K v = v) : (cycL p K v).reverse ++ [((itb p (K - 1) v : Nat) : Int)] = roundL p K (itb p (K - 1) v) := by
  have hper : ∀ t, K ≤ t → itb p t v = itb p (t - K) v := fun t ht => by
    rw [show t = (t - K) + K by omega, itb_add, hK]
    simp
  apply List.ext_getElem
  · simp [cycL, roundL]
  · intro i h1 h2
    rw [roundL_get]
    simp only [List.length_append, List.length_reverse, cycL_len, List.length_singleton] at h1
    rcases Nat.lt_or_ge i K with h | h
    · rw [List.getElem_append_left (by rw [List.length_reverse, cycL_len]; exact h), List.getElem_reverse, cycL_get, cycL_len]
      congr 1
      rw [← itb_add, hper (K - i + (K - 1)) (by omega)]
      congr 1
      omega
    · have : i = K := by omega
      subst this
      rw [List.getElem_append_right (by rw [List.length_reverse, cycL_len]; exact Nat.le_refl _)]
      simp [cycL_len, itb]
theorem minE_fold {u v : Int} : ∀ (es : List Ed) (a : Int), es.foldl (fun a e => if e.u = u ∧ e.v = v then min a e.c else a) a ≤ a
  | [], a => Int.le_refl _
  | e :: r, a => by
    simp only [List.foldl_cons]
    refine Int.le_trans (minE_fold r _) ?_
    split <;> omega
theorem minE_le {u v : Int} : ∀ {es : List Ed} (a : Int) {e : Ed}, e ∈ es → e.u = u → e.v = v → es.foldl (fun a e => if e.u = u ∧ e.v = v then min a e.c else a) a ≤ e.c
  | x :: r, a, e, he, hu, hv => by
    simp only [List.foldl_cons]
    rcases List.mem_cons.1 he with rfl | he
    · refine Int.le_trans (minE_fold r _) ?_
      rw [if_pos ⟨hu, hv⟩]
      omega
    · exact minE_le _ he hu hv
def EE (es : List Ed) (u v : Nat) : Int := minE (u : Int) (v : Int) es
theorem EE_le {n : Nat} {es : List Ed} (hes : Right n es) : ∀ e ∈ nes es, EE es e.u e.v ≤ e.c := by
  intro e he
  obtain ⟨x, hx, rfl⟩ := nes_mem he
  have := hes x hx
  exact minE_le _ hx (by simp only; omega) (by simp only; omega)
/-- the walk round costs what the steps cost -/
theorem round_cost {es : List Ed} {p : Nat → Int} {K x : Nat} (hE : ∀ k, EE es (itb p (k + 1) x) (itb p k x) ≠ 1099511627776) : ∀ (m : Nat), m ≤ K → wcRest es (roundL p K x) 0 = wcRest es ((roundL p K x).drop m) (wtb (EE es) p K x - wtb (EE es) p (K - m) x)
  | 0, _ => by simp
  | m + 1, hm => by
    have h1 := round_cost (K := K) hE m (by omega)
    rw [h1]
    have e1 : K - m = (K - (m + 1)) + 1 := by omega
    have g1 : (roundL p K x)[m]'(by rw [roundL_len]; omega) = ((itb p (K - (m + 1) + 1) x : Nat) : Int) := by rw [roundL_get, e1]
    have g2 : (roundL p K x)[m + 1]'(by rw [roundL_len]; omega) = ((itb p (K - (m + 1)) x : Nat) : Int) := by rw [roundL_get]
    have hm2 : minE ((roundL p K x)[m]'(by rw [roundL_len]; omega)) ((roundL p K x)[m + 1]'(by rw [roundL_len]; omega)) es = EE es (itb p (K - (m + 1) + 1) x) (itb p (K - (m + 1)) x) := by rw [g1, g2]; rfl
    have hlen : m + 1 < (roundL p K x).length := by rw [roundL_len]; omega
    rw [wcRest_go hlen _ (by rw [hm2]; exact hE _), hm2, e1]
    simp only [wtb]
    congr 1
    omega
theorem round_ends {es : List Ed} {p : Nat → Int} {K x : Nat} (hE : ∀ k, EE es (itb p (k + 1) x) (itb p k x) ≠ 1099511627776) : wcRest es (roundL p K x) 0 = (wtb (EE es) p K x, 0) := by
  rw [round_cost (K := K) hE K (Nat.le_refl _), wcRest_end (by rw [roundL_len]; omega)]
  simp [wtb]
/-- what bell.Cycle finds, when a cost gave way in the last round -/
structure Found (n : Nat) (es : List Ed) (p : Nat → Int) (v K : Nat) : Prop where
  pos : 0 < K
  le : K ≤ n
  back : itb p K v = v
  first : ∀ j, 0 < j → j < K → itb p j v ≠ v
  ok : ∀ k, 0 ≤ p (itb p k v)
  lt : ∀ k, itb p k v < n
  cost : wcost (n : Int) es (roundL p K (itb p (K - 1) v)) = (wtb (EE es) p K (itb p (K - 1) v), 0) ∧ wtb (EE es) p K (itb p (K - 1) v) < 0
theorem cycle_found {n : Nat} {es : List Ed} (h0 : netErr (n : Int) es = 0) (hn1 : 1 ≤ n) (hn : n ≤ 64) (hes : Right n es) (hl : 0 ≤ (brelax (nes es) n ⟨fun _ => 0, fun _ => -1, -1⟩).last) :
    (brelax (nes es) n ⟨fun _ => 0, fun _ => -1, -1⟩).last.toNat < n ∧ Okb (brelax (nes es) n ⟨fun _ => 0, fun _ => -1, -1⟩).p n (brelax (nes es) n ⟨fun _ => 0, fun _ => -1, -1⟩).last.toNat ∧ (∀ y, 0 ≤ (brelax (nes es) n ⟨fun _ => 0, fun _ => -1, -1⟩).p y → (brelax (nes es) n ⟨fun _ => 0, fun _ => -1, -1⟩).p y < (n : Int)) ∧
    ∃ K, Found n es (brelax (nes es) n ⟨fun _ => 0, fun _ => -1, -1⟩).p (itb (brelax (nes es) n ⟨fun _ => 0, fun _ => -1, -1⟩).p n (brelax (nes es) n ⟨fun _ => 0, fun _ => -1, -1⟩).last.toNat) K := by
  have hI := CInv.relax (E := EE es) (EE_le hes) n _ (CInv.start (nes es) (EE es))
  obtain ⟨m, rfl⟩ : ∃ m, n = m + 1 := ⟨n - 1, by omega⟩
  obtain ⟨r, hR⟩ := relax_rounds m 1 _ _ (RI.start (nes es)) hl
  rw [show 1 + m = m + 1 by omega] at hR
  generalize brelax (nes es) (m + 1) ⟨fun _ => 0, fun _ => -1, -1⟩ = s at *
  have hok := (last_ok hR hl (m + 1) (Nat.le_refl _)).1
  have hlast : s.last.toNat < m + 1 := by
    have h1 := hR.last hl
    have h2 := hR.has s.last.toNat (by omega)
    obtain ⟨⟨e, he, h3, h4⟩, _⟩ := hI.edge _ h2
    have := (nes_right hes e he).2
    omega
  have hp : ∀ y, 0 ≤ s.p y → s.p y < ((m + 1 : Nat) : Int) := fun y hy => by
    obtain ⟨⟨e, he, h3, h4⟩, _⟩ := hI.edge _ hy
    have := (nes_right hes e he).1
    rw [h3] at this
    simp only [pk] at this
    omega
  refine ⟨hlast, hok, hp, ?_⟩
  obtain ⟨K, k1, k2, k3, k4, k5, k6⟩ := comes_back hlast hp hok
  generalize itb s.p (m + 1) s.last.toNat = v at *
  refine ⟨K, k1, k2, k3, k4, k5, k6, ?_⟩
  have hx : ∀ k, 0 ≤ s.p (itb s.p k (itb s.p (K - 1) v)) := fun k => by rw [← itb_add]; exact k5 _
  have hxl : ∀ k, itb s.p k (itb s.p (K - 1) v) < m + 1 := fun k => by rw [← itb_add]; exact k6 _
  have hxc : itb s.p K (itb s.p (K - 1) v) = itb s.p (K - 1) v := by rw [← itb_add, Nat.add_comm, itb_add, k3]
  generalize itb s.p (K - 1) v = x at *
  have hE : ∀ k, EE es (itb s.p (k + 1) x) (itb s.p k x) ≠ 1099511627776 := fun k => by
    obtain ⟨⟨e, he, h3, h4⟩, _⟩ := hI.edge _ (hx k)
    have h5 := EE_le hes e he
    obtain ⟨y, hy, rfl⟩ := nes_mem he
    have := hes y hy
    simp only at h3 h4 h5
    rw [h3, h4] at h5
    simp only [itb]
    omega
  refine ⟨?_, hI.neg K x k1 (fun i _ => hx i) hxc⟩
  unfold wcost
  rw [if_neg (fun h => h h0), if_neg (by rw [roundL_len]; omega), if_neg (by rw [roundL_len]; omega), if_neg ?_, round_ends hE]
  rw [Bool.not_eq_true]
  refine anyI_none fun k hk => ?_
  rw [roundL_get]
  have := hxl (K - k)
  simp [badAt]
  omega
end Go.Proofs.Ytgkiipmeigfjnaa
