/-
  Several texts in one:
  The first of a list that meets a condition. No program here.
  slices.IndexFunc, DeleteFunc, Index and Contains over numbers, the step of the first two being 'it is the one that a variable holds'. Conditions: that the slices read; a bound on the lengths.
-/
import Derived.Test.YtcehdpeeaogpiaaBase
import Derived.Test.YtcehdpeeaogpiaaPlainB
import Derived.Test.YtcehdpeeaogpiaaHeapPop
import Derived.Lib.SliceRun
/-! The first of a list that meets a condition. No program here. -/
namespace Go.Proofs.Ytcehdpeeaogpiaa
def firstB : List Bool → Nat → Int
  | [], _ => -1
  | b :: r, k => if b = true then (k : Int) else firstB r (k + 1)
theorem firstB_hit {bs : List Bool} {k : Nat} (h : k < bs.length) (hb : bs[k] = true) : firstB (bs.drop k) k = k := by
  rw [List.drop_eq_getElem_cons h]
  simp [firstB, hb]
theorem firstB_miss {bs : List Bool} {k : Nat} (h : k < bs.length) (hb : bs[k] = false) : firstB (bs.drop k) k = firstB (bs.drop (k + 1)) (k + 1) := by
  rw [List.drop_eq_getElem_cons h]
  simp [firstB, hb]
theorem firstB_end {bs : List Bool} {k : Nat} (h : bs.length ≤ k) : firstB (bs.drop k) k = -1 := by
  rw [List.drop_of_length_le h]; rfl
theorem firstB_any : ∀ (bs : List Bool) (k : Nat), decide (0 ≤ firstB bs k) = bs.any id
  | [], k => rfl
  | b :: r, k => by
    unfold firstB
    cases b with
    | true => simp
    | false => simpa using firstB_any r (k + 1)
theorem firstB_range : ∀ (bs : List Bool) (k : Nat), -1 ≤ firstB bs k ∧ firstB bs k ≤ k + bs.length
  | [], k => by simp [firstB]
  | b :: r, k => by
    have := firstB_range r (k + 1)
    unfold firstB
    simp only [List.length_cons]
    split <;> omega
theorem firstB_get : ∀ (bs : List Bool) (k : Nat), 0 ≤ firstB bs k → ∃ i, ∃ h : i < bs.length, firstB bs k = ((k + i : Nat) : Int) ∧ bs[i] = true ∧ ∀ j (hj : j < i), bs[j]'(by omega) = false
  | [], k, h => by simp [firstB] at h
  | b :: r, k, h => by
    unfold firstB at h ⊢
    cases b with
    | true => exact ⟨0, by simp, by simp, by simp, fun j hj => by omega⟩
    | false =>
      rw [if_neg (by simp)] at h ⊢
      obtain ⟨i, hi, h1, h2, h3⟩ := firstB_get r (k + 1) h
      refine ⟨i + 1, by simp; omega, by rw [h1]; congr 1; omega, by simpa using h2, fun j hj => ?_⟩
      cases j with
      | zero => rfl
      | succ j => simpa using h3 j (by omega)
theorem firstB_none : ∀ (bs : List Bool) (k : Nat), firstB bs k < 0 → ∀ j (h : j < bs.length), bs[j] = false
  | [], k, _, j, hj => by simp at hj
  | b :: r, k, h, j, hj => by
    unfold firstB at h
    cases b with
    | true => simp at h; omega
    | false =>
      rw [if_neg (by simp)] at h
      cases j with
      | zero => rfl
      | succ j => simpa using firstB_none r (k + 1) h j (by simpa using hj)
end Go.Proofs.Ytcehdpeeaogpiaa

/-! slices.IndexFunc, DeleteFunc, Index and Contains over numbers, the step of the first two being 'it is the one that a variable holds'. Conditions: that the slices read; a bound on the lengths. -/
namespace Go.Proofs.Ytcehdpeeaogpiaa
open Go.RowKit
set_option linter.unusedSimpArgs false
set_option linter.unusedVariables false
def eqs (y : Int) (xs : List Int) : List Bool := xs.map fun x => x == y
def dels (y : Int) (xs : List Int) : List Int := xs.filter fun x => !(x == y)
theorem firstB_say : ∀ (bs : List Bool) (k : Nat), (firstB bs k = -1 ∧ ∀ b ∈ bs, b = false) ∨ ∃ i, ∃ h : i < bs.length, firstB bs k = ((k + i : Nat) : Int) ∧ bs[i] = true ∧ ∀ t (ht : t < i), bs[t]'(by omega) = false
  | [], k => .inl ⟨rfl, fun e he => by cases he⟩
  | x :: r, k => by
    rw [firstB]
    by_cases h : x = true
    · rw [if_pos h]
      exact .inr ⟨0, by simp, by simp, by simpa using h, fun t ht => by omega⟩
    · rw [if_neg h]
      rcases firstB_say r (k + 1) with ⟨h1, h2⟩ | ⟨i, hi, h1, h2, h3⟩
      · refine .inl ⟨h1, fun e he => ?_⟩
        rcases List.mem_cons.1 he with rfl | he
        · simpa using h
        · exact h2 e he
      · refine .inr ⟨i + 1, by simpa using hi, by rw [h1]; congr 1; omega, by simpa using h2, fun t ht => ?_⟩
        cases t with
        | zero => simpa using h
        | succ t => simpa using h3 t (by omega)
theorem dels_none {y : Int} {xs : List Int} (h : ∀ b ∈ eqs y xs, b = false) : dels y xs = xs := by
  unfold dels
  rw [List.filter_eq_self]
  intro x hx
  have := h (x == y) (List.mem_map.2 ⟨x, hx, rfl⟩)
  rw [this]; rfl
theorem dels_take {y : Int} {xs : List Int} {j : Nat} (hj : j < xs.length) : dels y (xs.take (j + 1)) = dels y (xs.take j) ++ (if (xs[j] == y) = true then [] else [xs[j]]) := by
  unfold dels
  rw [List.take_succ_eq_append_getElem hj, List.filter_append, List.filter_cons]
  cases h : xs[j] == y <;> simp
theorem dels_first {y : Int} {xs : List Int} {i : Nat} (hi : i < xs.length) (h1 : (xs[i] == y) = true) (h2 : ∀ t (ht : t < i), ((xs[t]'(by omega)) == y) = false) : dels y (xs.take (i + 1)) = xs.take i := by
  rw [dels_take hi, if_pos h1, List.append_nil]
  unfold dels
  rw [List.filter_eq_self]
  intro x hx
  obtain ⟨t, ht, rfl⟩ := List.getElem_of_mem hx
  rw [List.length_take] at ht
  rw [List.getElem_take, h2 t (by omega)]
  rfl
theorem dels_mem {y x : Int} {xs : List Int} : x ∈ dels y xs ↔ x ∈ xs ∧ x ≠ y := by simp [dels]
theorem Own.takeI {e : TypeId} {w : World} {base g c : Nat} : ∀ (d m : Nat) (xs : List Int), Own encI 1 e w base (.slice (some ⟨g, 0, none⟩) (m + d) c) xs → Own encI 1 e w base (.slice (some ⟨g, 0, none⟩) m c) (xs.take m)
  | 0, m, xs, h => by
    have hl := h.len
    rw [List.take_of_length_le (by omega)]
    exact h
  | d + 1, m, xs, h => by
    have hl := h.len
    have hne : xs ≠ [] := by intro e; subst e; simp at hl
    rw [← List.dropLast_concat_getLast hne] at h
    have h2 := Own.takeI d m _ (h.shrink lenI : Own encI 1 e w base (.slice (some ⟨g, 0, none⟩) (m + d) c) xs.dropLast)
    rwa [List.dropLast_eq_take, List.take_take, Nat.min_eq_left (by omega)] at h2
/-- zeros behind the first i -/
theorem Own.wipeI {e : TypeId} {base g n c : Nat} : ∀ (d i : Nat) (w : World) (xs : List Int), Own encI 1 e w base (.slice (some ⟨g, 0, none⟩) n c) xs → i + d = n → ∃ ys, Own encI 1 e (w.setCells g i (List.replicate d (.int .i64 0))) base (.slice (some ⟨g, 0, none⟩) n c) ys ∧ ys.take i = xs.take i
  | 0, i, w, xs, h, _ => ⟨xs, h, rfl⟩
  | d + 1, i, w, xs, h, hn => by
    have hl := h.len
    have h1 := h.putI i (by omega) 0
    obtain ⟨ys, h2, h3⟩ := Own.wipeI d (i + 1) _ _ h1 (by omega)
    refine ⟨ys, h2, ?_⟩
    have h4 := congrArg (List.take i) h3
    rw [List.take_take, List.take_take, Nat.min_eq_left (by omega)] at h4
    rw [h4, List.take_set_of_le (by omega)]
theorem Keep.setCellsI {S : Nat → Prop} {w : World} {b : Nat} (hb : S b) : ∀ (vs : List Value) (o : Nat) (w' : World), Keep S w w' → Keep S w (w'.setCells b o vs)
  | [], o, w', h => h
  | v :: r, o, w', h => Keep.setCellsI hb r (o + 1) _ (h.setCell (.inl hb) v)
theorem zeroI (w : World) : (zeroValue 3).run Try.prog w = .ok (.int .i64 0) w := by kernel_rfl
theorem delS_any (x y : Int) (bv : Nat) (w : World) (hc : w.cell? ⟨bv, 0, none⟩ = some (.int .i64 y)) : Calls Try.prog 112 #[.int .i64 x, .pointer (some ⟨bv, 0, none⟩)] w fun e w' => e = .returned (.bool (x == y)) ∧ w = w' := by
  go_enter Try.func112, Try.ntmps112
  go_wp2
  go_ret
  exact ⟨rfl, rfl⟩
set_option maxRecDepth 100000 in
set_option maxHeartbeats 1000000 in
theorem idxS_any (y : Int) (bv : Nat) (an : Option Addr) (cn m : Nat) (xs : List Int) (w : World) (B : Nat) (hB : B ≤ w.heap.size) (hm : xs.length = m) (hE : Row encI 1 w B an xs) (hc : w.cell? ⟨bv, 0, none⟩ = some (.int .i64 y)) (hm2 : m ≤ 1000000) :
    Calls Try.prog 176 #[.slice an m cn, .func (.func 112) #[] #[.pointer (some ⟨bv, 0, none⟩)]] w fun e w' => e = .returned (.int .i64 (firstB (eqs y xs) 0)) ∧ Below w.heap.size w w' := by
  obtain ⟨bs, hbse⟩ : ∃ bs, bs = eqs y xs := ⟨_, rfl⟩
  have hbl := hide (show bs.length = m by rw [hbse]; simp [eqs, hm])
  have hbb := hide (show ∀ k (h : k < xs.length) (h2 : k < bs.length), bs[k] = (xs[k] == y) from fun k h h2 => by subst hbse; simp [eqs])
  rw [← hbse]
  clear hbse
  replace hE := hide hE
  replace hm := hide hm
  have z1 := cell_lt hc
  go_enter Try.func176, Try.ntmps176
  go_wp2
  go_loopw [5, 8] (fun _ i wr => ∃ k : Nat, k ≤ m ∧ i = .int .i64 k ∧ Hid (firstB bs 0 = firstB (bs.drop k) k) ∧ Hid (Below w.heap.size w wr)) (fun _ i _ => m - (intOf i).toNat)
  case atStart => exact ⟨0, Nat.zero_le _, rfl, hide rfl, hide (Below.refl _ _)⟩
  case round =>
    obtain ⟨k, hk2, rfl, hrest, hb'⟩ := hrel
    have hz := hb'.out.size
    by_cases hlt : k < m
    · have hk' : k < xs.length := by have := hm.out; omega
      have hk'' : k < bs.length := by have := hbl.out; omega
      obtain ⟨b4, o4, rfl, hbB, f1⟩ := hE.out.int k hk'
      have f1 := cu_below hb'.out f1 (by simp; omega)
      have hbr : b4 < wr.heap.size := by omega
      have hv := hide (hbb.out k hk' hk'')
      have hit := hide (firstB_hit hk'')
      have miss := hide (firstB_miss hk'')
      have ik : (0 : Int) ≤ (k : Int) ∧ (k : Int) < (m : Int) := by omega
      generalize xs[k] = x at f1 hv
      have hcr := cu_below hb'.out hc z1
      have hT := hide (fun (w' : World) (hb : Below wr.heap.size wr w') => delS_any x y bv w' (cu_below hb hcr (cell_lt hcr)))
      obtain ⟨t, ht⟩ : ∃ t, t = (x == y) := ⟨_, rfl⟩
      rw [← ht] at hT hv
      replace ht := hide ht
      cases t with
      | true =>
        have hfin := hide (show (k : Int) = firstB bs 0 by rw [hrest.out, hit.out hv.out])
        go_wp2_with fail
        refine (hT.out _ (by first | exact Below.refl _ _ | exact below_drew _)).mono ?_
        rintro e w1 ⟨rfl, rfl⟩
        go_wp2
        go_ret
        exact ⟨ret_int hfin.out, hb'.out⟩
      | false =>
        have hnx := hide (show firstB bs 0 = firstB (bs.drop (k + 1)) (k + 1) by rw [hrest.out, miss.out hv.out])
        go_wp2_with fail
        refine (hT.out _ (by first | exact Below.refl _ _ | exact below_drew _)).mono ?_
        rintro e w1 ⟨rfl, rfl⟩
        go_wp2
        go_roundw
        case rel => exact ⟨k + 1, by omega, by go_num, hnx, hb'⟩
        case measure => simp [intOf]; omega
    · obtain rfl : k = m := by omega
      have hfin := hide (show -1 = firstB bs 0 by rw [hrest.out, firstB_end (by rw [hbl.out]; exact Nat.le_refl _)])
      go_wp2
      go_ret
      exact ⟨ret_int hfin.out, hb'.out⟩
def DelAns (y : Int) (xs : List Int) (base : Nat) (v : Value) (w : World) (e : Ending) (w' : World) : Prop := ∃ a c, e = .returned (.slice a (dels y xs).length c) ∧ Own encI 1 3 w' base (.slice a (dels y xs).length c) (dels y xs) ∧ Keep (fun j => v.ownBlock = some j) w w' ∧ ∀ b, (Value.slice a (dels y xs).length c).ownBlock = some b → v.ownBlock = some b
set_option maxRecDepth 100000 in
set_option maxHeartbeats 4000000 in
theorem delI_any (y : Int) (bv : Nat) (an : Option Addr) (cn m base : Nat) (xs : List Int) (hm : xs.length = m) (w : World) (own0 : Own encI 1 3 w base (.slice an m cn) xs) (hne : (Value.slice an m cn).ownBlock ≠ some bv) (hc : w.cell? ⟨bv, 0, none⟩ = some (.int .i64 y)) (hm2 : m ≤ 1000000) :
    Calls Try.prog 111 #[.slice an m cn, .func (.func 112) #[] #[.pointer (some ⟨bv, 0, none⟩)]] w (DelAns y xs base (.slice an m cn) w) := by
  have hrow0 : Row encI 1 w w.heap.size an xs := by
    obtain ⟨a', cap, hv, hr, _⟩ := own0.row lenI
    simp only [Value.slice.injEq] at hv
    rw [hv.1]
    exact hr
  have hI := hide (idxS_any y bv an cn m xs w w.heap.size (Nat.le_refl _) hm hrow0 hc hm2)
  have hD := hide (fun (x : Int) (w' : World) => delS_any x y bv w')
  have z1 := cell_lt hc
  rcases firstB_say (eqs y xs) 0 with ⟨h1, h2⟩ | ⟨i0, hi0, h1, h2, h3⟩
  · rw [h1] at hI
    have hall := hide (dels_none h2)
    replace own0 := hide own0
    replace hm := hide hm
    clear hc h1 h2 hrow0
    go_enter Try.func111, Try.ntmps111
    go_wp2_with fail
    refine hI.out.mono ?_
    rintro e w1 ⟨rfl, hb1⟩
    have hr1 := hide (own0.out.stays hb1)
    have hk1 := hide (show Keep (fun j => (Value.slice an m cn).ownBlock = some j) w w1 from Keep.new hb1)
    go_wp2
    go_ret
    refine ⟨an, cn, by rw [hall.out, hm.out]; rfl, by rw [hall.out, hm.out]; exact hr1.out, hk1.out, fun b hb => ?_⟩
    cases an with
    | none => simp [Value.ownBlock] at hb
    | some a => exact hb
  · rw [h1, Nat.zero_add] at hI
    have hi1 : i0 < xs.length := by simpa [eqs] using hi0
    have hfst := hide (dels_first hi1 (by simpa [eqs] using h2) (fun t ht => by simpa [eqs] using h3 t ht))
    obtain ⟨g, rfl, hg1, hg2⟩ := own0.blockI' (by omega)
    have hgb : g ≠ bv := fun e => hne (by rw [e]; rfl)
    have hmc : m ≤ cn := by
      obtain ⟨_, _, hv', _, hle, _⟩ := own0.row lenI
      injection hv' with g1 g2 g3
      omega
    have him : i0 < m := by omega
    have hneg : ((i0 : Int) == -1) = false := by first | (simp; done) | (simp; omega)
    replace own0 := hide own0
    replace hm := hide hm
    replace hc := hide hc
    clear h1 h2 h3 hi0 hi1 hrow0 hne
    go_enter Try.func111, Try.ntmps111
    go_wp2_with fail
    refine hI.out.mono ?_
    rintro e w1 ⟨rfl, hb1⟩
    have own1 := hide (own0.out.stays hb1)
    have hk1 := hide (show Keep (fun j => j = g) w w1 from Keep.new hb1)
    clear hb1 hI
    go_wp2
    clear hneg
    go_loopw [5, 6, 7] (fun s5 s6 _ wr => ∃ (j i : Nat) (ys : List Int), i < j ∧ j ≤ m ∧ s5 = .int .i64 i ∧ s6 = .int .i64 j ∧ Hid (ys.length = m) ∧ Hid (dels y (xs.take j) = ys.take i) ∧ Hid (∀ t, j ≤ t → ys[t]? = xs[t]?) ∧ Hid (Own encI 1 3 wr base (.slice (some ⟨g, 0, none⟩) m cn) ys) ∧ Hid (Keep (fun j => j = g) w wr)) (fun _ s6 _ _ => m - (intOf s6).toNat)
    case atStart => exact ⟨i0 + 1, i0, xs, by omega, by omega, rfl, by first | rfl | go_num, hm, hfst, hide (fun t _ => rfl), own1, hk1⟩
    case round =>
      clear own1 hk1
      obtain ⟨j, i, ys, hij, hj, rfl, rfl, hyl, hins, htl, own, hK⟩ := hrel
      have hgl := own.out.at_base.2
      have fr := own.out.free
      by_cases hlt : j < m
      · have hje : j < xs.length := by rw [hm.out]; exact hlt
        have hjy : j < ys.length := by rw [hyl.out]; exact hlt
        have hiy : i < ys.length := by omega
        have hye : ys[j] = xs[j] := by
          have := htl.out j (Nat.le_refl _)
          rw [List.getElem?_eq_getElem hjy, List.getElem?_eq_getElem hje] at this
          exact Option.some.inj this
        have q0 := own.out.getI j hjy
        have p0 := own.out.getI i hiy
        have htk := hide (dels_take (y := y) hje)
        rw [hye] at q0
        obtain ⟨x, hxe⟩ : ∃ x, x = xs[j] := ⟨_, rfl⟩
        rw [← hxe] at q0 htk hye
        have hcr := hK.out.cu hc.out (by simp; omega)
        have hG := hide (hD.out x wr hcr)
        have own6 := hide (own.out.putI i hiy x)
        have hK6 := hide (hK.out.setCell (p := ⟨g, i, none⟩) (.inl rfl) (.int .i64 x))
        generalize ys[i] = yi at p0
        obtain ⟨t, ht⟩ : ∃ t, t = (x == y) := ⟨_, rfl⟩
        rw [← ht] at htk hG
        replace hxe := hide hxe
        replace ht := hide ht
        replace hye := hide hye
        have ij : (0 : Int) ≤ (j : Int) ∧ (j : Int) < (m : Int) := by omega
        have ii : (0 : Int) ≤ (i : Int) ∧ (i : Int) < (m : Int) := by omega
        have fi := fr i
        clear fr
        cases t with
        | false =>
          simp only [Bool.false_eq_true, if_false] at htk
          have htk2 := hide (show (ys.set i x).take (i + 1) = ys.take i ++ [x] by
            rw [List.take_succ_eq_append_getElem (by simpa using hiy), List.getElem_set_self]
            congr 1
            apply List.ext_getElem
            · simp
            · intro t h1 h2
              rw [List.length_take] at h2
              simp only [List.getElem_take]
              rw [List.getElem_set_ne (by omega)])
          go_wp2_with fail
          refine hG.out.mono ?_
          rintro e w5 ⟨rfl, rfl⟩
          go_wp2
          go_roundw
          case rel => exact ⟨j + 1, i + 1, ys.set i x, by omega, by omega, by go_num, by go_num, hide (by rw [List.length_set]; exact hyl.out), hide (by rw [htk.out, htk2.out, hins.out]), hide (fun t ht => by rw [List.getElem?_set_ne (by omega)]; exact htl.out t (by omega)), own6, hK6⟩
          case measure => simp [intOf]; omega
        | true =>
          simp only [if_true, List.append_nil] at htk
          go_wp2_with fail
          refine hG.out.mono ?_
          rintro e w5 ⟨rfl, rfl⟩
          go_wp2
          go_roundw
          case rel => exact ⟨j + 1, i, ys, by omega, by omega, by go_num, by go_num, hyl, hide (by rw [htk.out]; exact hins.out), hide (fun t ht => htl.out t (by omega)), own, hK⟩
          case measure => simp [intOf]; omega
      · obtain rfl : j = m := by omega
        have hcl := fun ty => Lib.run_clear_slice (P := Try.prog) wr 29 3 ty (.int .i64 0) Try.underlying29 zeroI rfl rfl g i (j - i) (cn - i) (by omega) (fun t ht => by rw [own.out.getI (i + t) (by rw [hyl.out]; omega)]; rfl) (fun t _ => fr _)
        have hins2 := hins.out
        rw [List.take_of_length_le (by have := hm.out; omega)] at hins2
        have hpl := hide (show (dels y xs).length = i by rw [hins2, List.length_take]; have := hyl.out; omega)
        have hfin := hide (show Own encI 1 3 (wr.setCells g i (List.replicate (j - i) (.int .i64 0))) base (.slice (some ⟨g, 0, none⟩) i cn) (dels y xs) ∧ Keep (fun j => j = g) w (wr.setCells g i (List.replicate (j - i) (.int .i64 0))) from by
          refine ⟨?_, Keep.setCellsI (S := fun j => j = g) (b := g) rfl _ _ _ hK.out⟩
          obtain ⟨zs, h4, h5⟩ := Own.wipeI (j - i) i wr ys own.out (by omega)
          rw [hins2, ← h5]
          have h6 := Own.takeI (j - i) i zs (by rw [show i + (j - i) = j by omega]; exact h4)
          exact h6)
        have hij2 : i ≤ j := by omega
        have hic : i ≤ cn := by omega
        replace hfst := hide hfst
        go_wp2_with (simp only [hcl])
        go_ret
        exact ⟨some ⟨g, 0, none⟩, cn, by rw [hpl.out]; rfl, by rw [hpl.out]; exact hfin.out.1, hfin.out.2.mono (fun t _ h => by subst h; rfl), fun b hb => by simpa [Value.ownBlock] using hb⟩
set_option maxRecDepth 100000 in
set_option maxHeartbeats 1000000 in
theorem index_any (y : Int) (an : Option Addr) (cn m : Nat) (xs : List Int) (w : World) (B : Nat) (hm : xs.length = m) (hE : Row encI 1 w B an xs) (hm2 : m ≤ 1000000) :
    Calls Try.prog 181 #[.slice an m cn, .int .i64 y] w fun e w' => e = .returned (.int .i64 (firstB (eqs y xs) 0)) ∧ w' = w := by
  obtain ⟨bs, hbse⟩ : ∃ bs, bs = eqs y xs := ⟨_, rfl⟩
  have hbl := hide (show bs.length = m by rw [hbse]; simp [eqs, hm])
  have hbb := hide (show ∀ k (h : k < xs.length) (h2 : k < bs.length), bs[k] = (xs[k] == y) from fun k h h2 => by subst hbse; simp [eqs])
  rw [← hbse]
  clear hbse
  replace hE := hide hE
  replace hm := hide hm
  go_enter Try.func181, Try.ntmps181
  go_wp2
  go_loopw [5, 8] (fun _ i wr => ∃ k : Nat, k ≤ m ∧ i = .int .i64 k ∧ Hid (firstB bs 0 = firstB (bs.drop k) k) ∧ wr = w) (fun _ i _ => m - (intOf i).toNat)
  case atStart => exact ⟨0, Nat.zero_le _, rfl, hide rfl, rfl⟩
  case round =>
    obtain ⟨k, hk2, rfl, hrest, rfl⟩ := hrel
    by_cases hlt : k < m
    · have hk' : k < xs.length := by have := hm.out; omega
      have hk'' : k < bs.length := by have := hbl.out; omega
      obtain ⟨b4, o4, rfl, hbB, f1⟩ := hE.out.int k hk'
      have hv := hide (hbb.out k hk' hk'')
      have hit := hide (firstB_hit hk'')
      have miss := hide (firstB_miss hk'')
      have ik : (0 : Int) ≤ (k : Int) ∧ (k : Int) < (m : Int) := by omega
      generalize xs[k] = x at f1 hv
      by_cases hxy : x = y
      · have hfin := hide (show (k : Int) = firstB bs 0 by rw [hrest.out, hit.out (by rw [hv.out]; simpa using hxy)])
        have q : (y == x) = true := by simp [hxy]
        replace hxy := hide hxy
        go_wp2
        go_ret
        exact ⟨ret_int hfin.out, rfl⟩
      · have hnx := hide (show firstB bs 0 = firstB (bs.drop (k + 1)) (k + 1) by rw [hrest.out, miss.out (by rw [hv.out]; simpa using hxy)])
        have q : (y == x) = false := by simp; exact fun h => hxy h.symm
        go_wp2
        go_roundw
        case rel => exact ⟨k + 1, by omega, by go_num, hnx, by first | rfl | trivial⟩
        case measure => simp [intOf]; omega
    · obtain rfl : k = m := by omega
      have hfin := hide (show -1 = firstB bs 0 by rw [hrest.out, firstB_end (by rw [hbl.out]; exact Nat.le_refl _)])
      go_wp2
      go_ret
      exact ⟨ret_int hfin.out, rfl⟩
theorem contI_any (y : Int) (an : Option Addr) (cn m : Nat) (xs : List Int) (w : World) (B : Nat) (hm : xs.length = m) (hE : Row encI 1 w B an xs) (hm2 : m ≤ 1000000) :
    Calls Try.prog 114 #[.slice an m cn, .int .i64 y] w fun e w' => e = .returned (.bool (decide (y ∈ xs))) ∧ w' = w := by
  have hI := hide (index_any y an cn m xs w B hm hE hm2)
  have hA := hide (show decide (0 ≤ firstB (eqs y xs) 0) = decide (y ∈ xs) from by
    rcases firstB_say (eqs y xs) 0 with ⟨h1, h2⟩ | ⟨i0, hi0, h1, h2, h3⟩
    · rw [h1]
      have : y ∉ xs := fun hy => by
        have := h2 (y == y) (List.mem_map.2 ⟨y, hy, rfl⟩)
        simp at this
      simp [this]
    · rw [h1]
      have hi1 : i0 < xs.length := by simpa [eqs] using hi0
      have : y ∈ xs := by
        have h4 : xs[i0] = y := by simpa [eqs] using h2
        rw [← h4]; exact List.getElem_mem hi1
      simp [this])
  clear hE hm
  generalize firstB (eqs y xs) 0 = z at hI hA
  generalize decide (y ∈ xs) = t at hA ⊢
  go_enter Try.func114, Try.ntmps114
  go_wp2_with fail
  refine hI.out.mono ?_
  rintro e w1 ⟨rfl, rfl⟩
  go_wp2
  go_ret
  exact ⟨ret_bool hA.out, rfl⟩
end Go.Proofs.Ytcehdpeeaogpiaa
