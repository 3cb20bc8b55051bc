/-
  Guesses by landmarks agree; with the end itself a landmark they are no less than what it costs. No program here.
-/
import Derived.Test.YtcehdpeeaogpiaaTopMP
import Derived.Test.YtcehdpeeaogpiaaHOf
import Derived.Test.YtcehdpeeaogpiaaSLook
import Derived.Test.YtcehdpeeaogpiaaStarO
namespace Go.Proofs.Ytcehdpeeaogpiaa
set_option linter.unusedSimpArgs false
set_option linter.unusedVariables false
theorem hn_edges {n : Nat} {es : List Ed} (h : Right n es) (hp : ∀ e ∈ es, 1 ≤ e.c) : ∀ e ∈ nes es, e.u < n ∧ e.v < n ∧ 1 ≤ e.c ∧ e.c ≤ 10000 := by
  intro e he
  have h1 := nes_right h e he
  obtain ⟨x, hx, rfl⟩ := nes_mem he
  exact ⟨h1.1, h1.2, hp x hx, (h x hx).2.2.2.2.2⟩
/-- one edge more -/
theorem dst_edge {n m : Nat} {E : List NE} (hE : ∀ e ∈ E, e.u < n ∧ e.v < n ∧ 1 ≤ e.c ∧ e.c ≤ 10000) {e : NE} (he : e ∈ E) (h : dst n E e.v m < FAR) : dst n E e.u m ≤ dst n E e.v m + e.c := by
  have h1 := dst_tri (a := e.u) hE (hE e he).1 (dst_at h)
  have h0 := dst_self hE (hE e he).1
  have h2 := dst_feas hE (hE e he).1 e he (by rw [h0]; unfold FAR; omega)
  omega
theorem apart_from {x y b c : Int} (hx : x = FAR ∨ (0 ≤ x ∧ x ≤ 640000)) (hy : y = FAR ∨ (0 ≤ y ∧ y ≤ 640000)) (hb : b = FAR ∨ (0 ≤ b ∧ b ≤ 640000)) (hc : 1 ≤ c ∧ c ≤ 10000) (h : x < FAR → y ≤ x + c) : apartF x b ≤ apartF y b + c := by
  unfold apartF
  unfold FAR at *
  split <;> split <;> (try split) <;> (try split) <;> (try split) <;> omega
theorem apart_to {x y b c : Int} (hx : x = FAR ∨ (0 ≤ x ∧ x ≤ 640000)) (hy : y = FAR ∨ (0 ≤ y ∧ y ≤ 640000)) (hb : b = FAR ∨ (0 ≤ b ∧ b ≤ 640000)) (hc : 1 ≤ c ∧ c ≤ 10000) (h : y < FAR → x ≤ y + c) : apartF b x ≤ apartF b y + c := by
  unfold apartF
  unfold FAR at *
  split <;> (try split) <;> (try split) <;> (try split) <;> (try split) <;> omega
theorem apart_val {x y : Int} (hx : x = FAR ∨ (0 ≤ x ∧ x ≤ 640000)) (hy : y = FAR ∨ (0 ≤ y ∧ y ≤ 640000)) : apartF x y = FAR ∨ (0 ≤ apartF x y ∧ apartF x y ≤ 640000) := by
  unfold apartF
  unfold FAR at *
  split <;> (try split) <;> (try split) <;> omega
theorem apart_same (x : Int) (hx : x = FAR ∨ (0 ≤ x ∧ x ≤ 640000)) : apartF x x = 0 := by
  unfold apartF
  unfold FAR at *
  split <;> (try split) <;> (try split) <;> omega
section
variable {n : Nat} {es : List Ed} {ms : List Int}
theorem dst_in (hn : n ≤ 64) (hR : Right n es) (hp : ∀ e ∈ es, 1 ≤ e.c) {a v : Nat} (ha : a < n) (hv : v < n) : distF n es a v = FAR ∨ (0 ≤ distF n es a v ∧ distF n es a v ≤ 640000) := by
  have hE := hn_edges hR hp
  have h1 := dst_pos hE ha v hv
  rcases dst_small (a := a) hn hE v with h2 | h2
  · exact .inl h2
  · exact .inr ⟨h1, h2⟩
theorem at2_from {k : Nat} (hk : k < ms.length) {v : Nat} (hv : v < n) : at2 (fromRows n es ms) k v = distF n es ms[k].toNat v := by
  have h1 : k < (fromRows n es ms).length := by rw [fromRows_len]; exact hk
  have h2 : (fromRows n es ms)[k] = LI n (distF n es ms[k].toNat) := by simp [fromRows]
  rw [at2_get k v h1 (by rw [h2, li_len]; exact hv)]
  simp [h2, li_get]
theorem at2_to {k : Nat} (hk : k < ms.length) {v : Nat} (hv : v < n) : at2 (toRows n es ms) k v = distF n es v ms[k].toNat := by
  have h1 : k < (toRows n es ms).length := by rw [toRows_len]; exact hk
  have h2 : (toRows n es ms)[k] = LI n (fun v => distF n es v ms[k].toNat) := by simp [toRows]
  rw [at2_get k v h1 (by rw [h2, li_len]; exact hv)]
  simp [h2, li_get]
theorem bnd_val (hn : n ≤ 64) (hR : Right n es) (hp : ∀ e ∈ es, 1 ≤ e.c) (hm : ∀ x ∈ ms, 0 ≤ x ∧ x < (n : Int)) {v t : Nat} (hv : v < n) (ht : t < n) : ∀ k, k ≤ ms.length → (bndK (fromRows n es ms) (toRows n es ms) v t k = FAR ∨ (0 ≤ bndK (fromRows n es ms) (toRows n es ms) v t k ∧ bndK (fromRows n es ms) (toRows n es ms) v t k ≤ 640000))
  | 0, _ => by simp [bndK]
  | k + 1, hk => by
    have ih := bnd_val hn hR hp hm hv ht k (by omega)
    have hkm := hm _ (List.getElem_mem (show k < ms.length by omega))
    have hkn : ms[k].toNat < n := by omega
    simp only [bndK]
    rw [at2_from (by omega) hv, at2_from (by omega) ht, at2_to (by omega) ht, at2_to (by omega) hv]
    have h1 := apart_val (dst_in hn hR hp hkn hv) (dst_in hn hR hp hkn ht)
    have h2 := apart_val (dst_in hn hR hp ht hkn) (dst_in hn hR hp hv hkn)
    unfold FAR at *
    omega
theorem bnd_end (hn : n ≤ 64) (hR : Right n es) (hp : ∀ e ∈ es, 1 ≤ e.c) (hm : ∀ x ∈ ms, 0 ≤ x ∧ x < (n : Int)) {t : Nat} (ht : t < n) : ∀ k, k ≤ ms.length → bndK (fromRows n es ms) (toRows n es ms) t t k = 0
  | 0, _ => by simp [bndK]
  | k + 1, hk => by
    have ih := bnd_end hn hR hp hm ht k (by omega)
    have hkm := hm _ (List.getElem_mem (show k < ms.length by omega))
    have hkn : ms[k].toNat < n := by omega
    simp only [bndK]
    rw [at2_from (by omega) ht, at2_to (by omega) ht, ih, apart_same _ (dst_in hn hR hp hkn ht), apart_same _ (dst_in hn hR hp ht hkn)]
    rfl
theorem bnd_edge (hn : n ≤ 64) (hR : Right n es) (hp : ∀ e ∈ es, 1 ≤ e.c) (hm : ∀ x ∈ ms, 0 ≤ x ∧ x < (n : Int)) {t : Nat} (ht : t < n) {e : NE} (he : e ∈ nes es) : ∀ k, k ≤ ms.length → bndK (fromRows n es ms) (toRows n es ms) e.u t k ≤ bndK (fromRows n es ms) (toRows n es ms) e.v t k + e.c
  | 0, _ => by have := (hn_edges hR hp e he).2.2.1; simp only [bndK]; omega
  | k + 1, hk => by
    have ih := bnd_edge hn hR hp hm ht he k (by omega)
    have hE := hn_edges hR hp
    obtain ⟨hu, hv, hc1, hc2⟩ := hE e he
    have hkm := hm _ (List.getElem_mem (show k < ms.length by omega))
    have hkn : ms[k].toNat < n := by omega
    simp only [bndK]
    rw [at2_from (by omega) hu, at2_from (by omega) hv, at2_from (by omega) ht, at2_to (by omega) ht, at2_to (by omega) hu, at2_to (by omega) hv]
    have h1 := apart_from (dst_in hn hR hp hkn hu) (dst_in hn hR hp hkn hv) (dst_in hn hR hp hkn ht) ⟨hc1, hc2⟩ (fun h => dst_feas hE hkn e he h)
    have h2 := apart_to (dst_in hn hR hp hu hkn) (dst_in hn hR hp hv hkn) (dst_in hn hR hp ht hkn) ⟨hc1, hc2⟩ (fun h => dst_edge hE he h)
    omega
theorem bnd_ge (hn : n ≤ 64) (hR : Right n es) (hp : ∀ e ∈ es, 1 ≤ e.c) {v t : Nat} (hv : v < n) (ht : t < n) : distF n es v t ≤ bndK (fromRows n es (ms ++ [(t : Int)])) (toRows n es (ms ++ [(t : Int)])) v t (ms ++ [(t : Int)]).length := by
  have hl : (ms ++ [(t : Int)]).length = ms.length + 1 := by simp
  have hk : ms.length < (ms ++ [(t : Int)]).length := by omega
  have hg : (ms ++ [(t : Int)])[ms.length].toNat = t := by simp
  rw [hl]
  simp only [bndK]
  rw [at2_to hk ht, at2_to hk hv, hg]
  have h0 : distF n es t t = 0 := dst_self (hn_edges hR hp) ht
  have h1 := dst_in hn hR hp hv ht
  have h2 : apartF (distF n es t t) (distF n es v t) = distF n es v t := by
    rw [h0]
    unfold apartF
    unfold FAR at h1
    split <;> (try split) <;> (try split) <;> omega
  rw [h2]
  omega
end
theorem hAt_li {n : Nat} {f : Nat → Int} {v : Nat} : hAt (LI n f) v = if v < n then f v else 0 := by
  unfold hAt
  by_cases hv : v < n
  · rw [if_pos hv, List.getD_eq_getElem?_getD, List.getElem?_eq_getElem (by rw [li_len]; exact hv)]
    simp [li_get]
  · rw [if_neg hv, List.getD_eq_getElem?_getD, List.getElem?_eq_none (by rw [li_len]; omega)]
    rfl
theorem eErr_mk {f : Nat → Int} : ∀ (es : List Ed), (∀ e ∈ es, f e.u.toNat ≤ e.c + f e.v.toNat) → eErr f es = 0
  | [], _ => rfl
  | e :: r, h => by
    rw [eErr, if_neg (by have := h e (List.mem_cons_self ..); omega)]
    exact eErr_mk r (fun x hx => h x (List.mem_cons_of_mem _ hx))
/-- guesses by landmarks agree -/
theorem marks_agree {n t : Nat} {es : List Ed} {ms : List Int} (hn : n ≤ 64) (hR : Right n es) (hp : ∀ e ∈ es, 1 ≤ e.c) (hm : ∀ x ∈ ms, 0 ≤ x ∧ x < (n : Int)) (ht : t < n) : Agree n t (nes es) (hAt (ofList n es ms t n)) := by
  refine ⟨hn_edges hR hp, fun v => ?_, ?_, fun e he => ?_⟩
  · unfold ofList
    rw [hAt_li]
    split
    · rename_i hv
      have := bnd_val hn hR hp hm hv ht ms.length (Nat.le_refl _)
      unfold FAR at *
      omega
    · unfold FAR; omega
  · unfold ofList
    rw [hAt_li, if_pos ht]
    exact bnd_end hn hR hp hm ht ms.length (Nat.le_refl _)
  · unfold ofList
    obtain ⟨hu, hv, _, _⟩ := hn_edges hR hp e he
    rw [hAt_li, hAt_li, if_pos hu, if_pos hv]
    exact bnd_edge hn hR hp hm ht he ms.length (Nat.le_refl _)
theorem marks_look {n s t : Nat} {es : List Ed} {ms : List Int} (h0 : lookErr (n : Int) es [(s : Int), (t : Int)] = 0) (h1 : lookErr (n : Int) es [(t : Int)] = 0) (hm : ∀ x ∈ ms, 0 ≤ x ∧ x < (n : Int)) : slookErr (n : Int) es (s : Int) (t : Int) (ofList n es ms t n) = 0 := by
  obtain ⟨g1, g2⟩ := look_ok h0
  obtain ⟨g3, g4⟩ := posErr_ok g1
  obtain ⟨n1, n2, n3, n4⟩ := netErr_ok g3
  have ht : t < n := by have := g2 (t : Int) (by simp); omega
  have hA := marks_agree (t := t) (ms := ms) (show n ≤ 64 by omega) n4 g4 hm ht
  have hR : Right n es := n4
  unfold slookErr
  rw [if_neg (by simp [h0])]
  unfold guessErr
  have hlen : (ofList n es ms t n).length = n := li_len _ _
  rw [if_neg (by simp [h1]), if_neg (by rw [hlen]; simp), if_neg, if_neg, eErr_mk]
  · intro e he
    have hme : (⟨e.u.toNat, e.v.toNat, e.c⟩ : NE) ∈ nes es := List.mem_map.2 ⟨e, he, rfl⟩
    have := hA.he _ hme
    simp only at this
    omega
  · have := hA.ht
    simpa using this
  · have : hErr (ofList n es ms t n) = 0 := by
      rw [hErr_all]
      intro x hx
      obtain ⟨v, hv, rfl⟩ := List.mem_map.1 hx
      have hv' : v < n := List.mem_range.1 hv
      have := bnd_val (t := t) (show n ≤ 64 by omega) hR g4 hm hv' ht ms.length (Nat.le_refl _)
      unfold FAR at this
      omega
    simp [this]
/-- along a walk -/
theorem guess_path {n tg : Nat} {E : List NE} {h : Nat → Int} (hA : Agree n tg E h) {fr z : Nat} {x : Int} (hz : At E (stF fr) z x) : h fr ≤ x + h z := by
  induction hz with
  | base v hv => rw [stF_zero hv, stF_self]; omega
  | step e x he _ _ _ ih => have := hA.he e he; omega
/-- what a search with guesses by landmarks comes to -/
theorem marks_run {n fr tg : Nat} {E : List NE} {h : Nat → Int} (hn64 : n ≤ 64) (hA : Agree n tg E h) (hfr : fr < n) (htg : tg < n) {o : Option SR} (hr : SRun (fun c g => c + g) E h n tg (sStart h fr) o) :
    (o = none ∧ dst n E fr tg = FAR) ∨ ∃ s1, o = some s1 ∧ dst n E fr tg < FAR ∧ s1.cost tg = dst n E fr tg ∧ ∀ v ∈ s1.ord, v < n ∧ dst n E fr v + h v ≤ dst n E fr tg := by
  by_cases hhf : h fr = FAR
  · left
    have hs : sStart h fr = s00 := by unfold sStart; rw [if_pos hhf]
    have hnw : ∀ u, ¬ Waits n s00 u := fun u hu => by have := hu.2.1; simp [s00] at this
    rw [hs] at hr
    refine ⟨srun_one hr (.none s00 hnw), ?_⟩
    refine Classical.byContradiction fun hne => ?_
    have hlt : dst n E fr tg < FAR := by have := dst_far n fr tg E; omega
    have h1 := guess_path hA (dst_at hlt)
    have h2 := dst_small (a := fr) hn64 hA.lt tg
    rw [hA.ht, hhf] at h1
    unfold FAR at *
    omega
  · have hs : sStart h fr = ⟨upz (fun _ => FAR) fr 0, fun _ => -1, []⟩ := by unfold sStart; rw [if_neg hhf]
    rw [hs] at hr
    refine agree_run hn64 hA hfr htg hhf hr ainv_start (fun v hv => ?_)
    have hv' : upz (fun _ => FAR) fr (0 : Int) v < FAR := hv
    by_cases hvf : v = fr
    · rw [hvf]; exact hhf
    · rw [upz_other _ _ hvf] at hv'
      omega
/-- a place looked from, guessed exactly, lies on a least way -/
theorem on_way {n fr tg v : Nat} {E : List NE} (hE : ∀ e ∈ E, e.u < n ∧ e.v < n ∧ 1 ≤ e.c ∧ e.c ≤ 10000) (hfr : fr < n) (htg : tg < n) (hv : v < n) {hv' : Int} (hge : dst n E v tg ≤ hv') (hle : dst n E fr v + hv' ≤ dst n E fr tg) (hF : dst n E fr tg < FAR) : dst n E fr v + dst n E v tg = dst n E fr tg := by
  have h1 := dst_pos hE hfr v hv
  have h2 := dst_pos hE hv tg htg
  have h3 := dst_tri (a := fr) hE hfr (dst_at (show dst n E v tg < FAR by omega))
  omega
end Go.Proofs.Ytcehdpeeaogpiaa
