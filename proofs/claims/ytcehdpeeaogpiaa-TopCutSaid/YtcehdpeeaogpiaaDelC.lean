/-
  slices.DeleteFunc over edges, with felltop.TopCut$1: the edges of one cost go. Conditions: the slice is the call's own.
-/
import Derived.Test.YtcehdpeeaogpiaaBase
import Derived.Test.YtcehdpeeaogpiaaPlainB
import Derived.Test.YtcehdpeeaogpiaaHeapPop
import Derived.Laws.IdiomCopy
import Derived.Lib.SliceRun
namespace Go.Proofs.Ytcehdpeeaogpiaa
open Go.RowKit
set_option linter.unusedSimpArgs false
set_option linter.unusedVariables false
def eqC (c : Int) (e : Ed) : Bool := e.c == c
def notC (c : Int) (es : List Ed) : List Ed := es.filter fun e => !(e.c == c)
theorem notC_take {c : Int} {es : List Ed} {j : Nat} (h : j < es.length) : notC c (es.take (j + 1)) = if eqC c es[j] = false then notC c (es.take j) ++ [es[j]] else notC c (es.take j) := by
  unfold notC
  rw [List.take_succ_eq_append_getElem h, List.filter_append]
  unfold eqC
  cases hq : (es[j].c == c) <;> simp [hq]
def qIdx (q : Ed → Bool) : List Ed → Nat → Int | [], _ => -1 | e :: r, k => if q e = true then (k : Int) else qIdx q r (k + 1)
theorem qIdx_hit {q : Ed → Bool} {es : List Ed} {k : Nat} (h : k < es.length) (hq : q es[k] = true) : qIdx q (es.drop k) k = (k : Int) := by
  rw [List.drop_eq_getElem_cons h, qIdx, if_pos hq]
theorem qIdx_miss {q : Ed → Bool} {es : List Ed} {k : Nat} (h : k < es.length) (hq : q es[k] = false) : qIdx q (es.drop k) k = qIdx q (es.drop (k + 1)) (k + 1) := by
  rw [List.drop_eq_getElem_cons h, qIdx, if_neg (by simp [hq])]
theorem qIdx_say {q : Ed → Bool} : ∀ (es : List Ed) (k : Nat), (qIdx q es k = -1 ∧ ∀ e ∈ es, q e = false) ∨ ∃ i, ∃ h : i < es.length, qIdx q es k = ((k + i : Nat) : Int) ∧ q es[i] = true ∧ ∀ t (ht : t < i), q (es[t]'(by omega)) = false
  | [], k => .inl ⟨rfl, fun e he => by cases he⟩
  | x :: r, k => by
    rw [qIdx]
    by_cases h : q x = true
    · rw [if_pos h]
      exact .inr ⟨0, by simp, by simp, by simpa using h, fun t ht => by omega⟩
    · rw [if_neg h]
      rcases qIdx_say r (k + 1) with ⟨h1, h2⟩ | ⟨i, hi, h1, h2, h3⟩
      · refine .inl ⟨h1, fun e he => ?_⟩
        rcases List.mem_cons.1 he with rfl | he
        · simpa using h
        · exact h2 e he
      · refine .inr ⟨i + 1, by simpa using hi, by rw [h1]; congr 1; omega, by simpa using h2, fun t ht => ?_⟩
        cases t with
        | zero => simpa using h
        | succ t => simpa using h3 t (by omega)
theorem notC_first {c : Int} {es : List Ed} {i : Nat} (hi : i < es.length) (h1 : eqC c es[i] = true) (h2 : ∀ t (ht : t < i), eqC c (es[t]'(by omega)) = false) : notC c (es.take (i + 1)) = es.take i := by
  rw [notC_take hi, if_neg (by simp [h1])]
  unfold notC
  rw [List.filter_eq_self]
  intro e he
  obtain ⟨t, ht, rfl⟩ := List.getElem_of_mem he
  rw [List.length_take] at ht
  rw [List.getElem_take]
  have := h2 t (by omega)
  simpa [eqC] using this
theorem notC_all {c : Int} {es : List Ed} (h : ∀ e ∈ es, eqC c e = false) : notC c es = es := by
  unfold notC
  rw [List.filter_eq_self]
  intro e he
  have := h e he
  simpa [eqC] using this
theorem Own.rowE {w : World} {base n c : Nat} {e : TypeId} {a : Option Addr} {xs : List Ed} (h : Own encE 3 e w base (.slice a n c) xs) : Row encE 3 w w.heap.size a xs := by
  obtain ⟨a', c', hv, hr, _⟩ := h.row lenE
  injection hv with g1 g2 g3
  subst g1
  exact hr
theorem Own.putE {e : TypeId} {w : World} {base g n c : Nat} {xs : List Ed} (h : Own encE 3 e w base (.slice (some ⟨g, 0, none⟩) n c) xs) (i : Nat) (hi : i < xs.length) (x : Ed) :
    Own encE 3 e (((w.setCell ⟨g, i * 3, none⟩ (.int .i64 x.u)).setCell ⟨g, i * 3 + 1, none⟩ (.int .i64 x.v)).setCell ⟨g, i * 3 + 2, none⟩ (.int .i64 x.c)) base (.slice (some ⟨g, 0, none⟩) n c) (xs.set i x) := by
  have h1 := h.put lenE i hi 0 (by omega) (.int .i64 x.u) ⟨x.u, xs[i].v, xs[i].c⟩ rfl
  have h2 := h1.put lenE i (by simpa using hi) 1 (by omega) (.int .i64 x.v) ⟨x.u, x.v, xs[i].c⟩ (by simp [encE])
  have h3 := h2.put lenE i (by simpa using hi) 2 (by omega) (.int .i64 x.c) x (by simp [encE])
  simpa using h3
theorem Keep.setCells {S : Nat → Prop} {w : World} {b : Nat} (hb : S b) : ∀ (vs : List Value) (o : Nat) (w' : World), Keep S w w' → Keep S w (w'.setCells b o vs)
  | [], o, w', h => h
  | v :: r, o, w', h => Keep.setCells hb r (o + 1) _ (h.setCell (.inl hb) v)
theorem Row.takeE {w : World} {B : Nat} {a : Option Addr} {xs : List Ed} (h : Row encE 3 w B a xs) (k : Nat) : Row encE 3 w B a (xs.take k) := by
  intro i hi
  have hi' : i < xs.length := by rw [List.length_take] at hi; omega
  obtain ⟨b, o, h1, h2, h3⟩ := h i hi'
  refine ⟨b, o, h1, h2, fun j u hu => h3 j u ?_⟩
  rwa [List.getElem_take] at hu
theorem zeroE (w : World) : (zeroValue 34).run Try.prog w = .ok (.agg #[.int .i64 0, .int .i64 0, .int .i64 0]) w := by kernel_rfl
def zer (n : Nat) : List Value := (Builtin.zeroCells (Value.agg #[.int .i64 0, .int .i64 0, .int .i64 0]).cells n).toList
theorem zer_len (n : Nat) : (zer n).length = n * 3 := by simp [zer, Builtin.zeroCells, Value.cells]
theorem zer_one (n : Nat) : ∀ v ∈ zer n, v.oneCell' = true := by
  intro v hv
  simp only [zer, Builtin.zeroCells, Array.toList_map, List.mem_map] at hv
  obtain ⟨i, _, rfl⟩ := hv
  have : i % 3 = 0 ∨ i % 3 = 1 ∨ i % 3 = 2 := by omega
  have hs : (Value.agg #[.int .i64 0, .int .i64 0, .int .i64 0]).cells = #[.int .i64 0, .int .i64 0, .int .i64 0] := by rfl
  rw [hs]
  show (#[Value.int .i64 0, .int .i64 0, .int .i64 0][i % 3]!).oneCell' = true
  rcases this with h | h | h <;> rw [h] <;> rfl
theorem run_clearE (w : World) (ty : TypeId) (b o n c : Nat) (hn : 0 < n) (hc : ∀ j, j < n * 3 → (w.cell? ⟨b, o + j, none⟩).isSome = true) (hf : ∀ j, j < n * 3 → w.frozen? ⟨b, o + j, none⟩ = false) :
    (Builtin.clear_ #[22] ty #[.slice (some ⟨b, o, none⟩) n c]).run Try.prog w = .ok (.tuple #[]) (w.setCells b o (zer n)) := by
  have hst := run_storeCells_cells (P := Try.prog) b o (zer n) 0 w (by rw [zer_len]; simpa using hc) (by rw [zer_len]; simpa using hf) (zer_one n)
  simp only [Nat.add_zero] at hst
  obtain ⟨m, rfl⟩ : ∃ m, n = m + 1 := ⟨n - 1, by omega⟩
  simp [Builtin.clear_, run_underlying Try.underlying22, zeroE]
  have : (Builtin.zeroCells (Value.agg #[.int .i64 0, .int .i64 0, .int .i64 0]).cells (m + 1)).toList = zer (m + 1) := rfl
  simp only [this, hst]
  rfl
set_option maxHeartbeats 1000000 in
theorem tc1_any (c : Int) (bv : Nat) (ed : Ed) (w : World) (hc : w.cell? ⟨bv, 0, none⟩ = some (.int .i64 c)) :
    Calls Try.prog 20 #[.agg #[.int .i64 ed.u, .int .i64 ed.v, .int .i64 ed.c], .pointer (some ⟨bv, 0, none⟩)] w fun e w' => e = .returned (.bool (eqC c ed)) ∧ Below w.heap.size w w' := by
  have hl := cell_lt hc
  have hqe := hide (show (ed.c == c) = eqC c ed from rfl)
  go_enter Try.func20, Try.ntmps20
  go_wp2
  go_ret
  exact ⟨ret_bool hqe.out, (by repeat (first | with_reducible exact Below.refl _ _ | with_reducible assumption | with_reducible refine up_drewN ?_ | with_reducible refine up_drew ?_ | (with_reducible refine up_alloc ?_ ?_; rotate_left; (first | omega | (simp <;> omega) | simp)) | (with_reducible refine up_set ?_ ?_; rotate_left; (first | omega | (simp <;> omega) | simp)) | (with_reducible refine Below.trans ?_ (Below.mono (by with_reducible assumption) ?_); rotate_left; (first | omega | (simp <;> omega) | simp))))⟩
set_option maxRecDepth 100000 in
set_option maxHeartbeats 2000000 in
theorem ixc_any (c : Int) (bv : Nat) (an : Option Addr) (cn m : Nat) (es : List Ed) (hm : es.length = m) (w : World) (B : Nat) (hB : B ≤ w.heap.size) (hE : Row encE 3 w B an es) (hC : w.cell? ⟨bv, 0, none⟩ = some (.int .i64 c)) (hel : m ≤ 1000000) :
    Calls Try.prog 88 #[.slice an m cn, .func (.func 20) #[] #[.pointer (some ⟨bv, 0, none⟩)]] w fun e w' => e = .returned (.int .i64 (qIdx (eqC c) es 0)) ∧ Below w.heap.size w w' := by
  subst hm
  have hD := hide (fun (ed : Ed) w hC => tc1_any c bv ed w hC)
  replace hE := hide hE
  replace hC := hide hC
  go_enter Try.func88, Try.ntmps88
  go_wp2
  go_loopw [8] (fun i wr => ∃ j : Nat, j ≤ es.length ∧ i = .int .i64 j ∧ Hid (qIdx (eqC c) es 0 = qIdx (eqC c) (es.drop j) j) ∧ Hid (Below w.heap.size w wr)) (fun i _ => es.length - (intOf i).toNat)
  case atStart => exact ⟨0, Nat.zero_le _, rfl, rfl, Below.refl _ _⟩
  case round =>
    obtain ⟨j, hj, rfl, hrest, hb⟩ := hrel
    by_cases hlt : j < es.length
    · obtain ⟨b, o, rfl, hbB, c0, c1, c2⟩ := hE.out.ed j hlt
      have c0 := cu_below hb.out c0 (by simp; omega)
      have c1 := cu_below hb.out c1 (by simp; omega)
      have c2 := cu_below hb.out c2 (by simp; omega)
      have hz := hb.out.size
      have hbl : b < wr.heap.size := by omega
      obtain ⟨ed, hed⟩ : ∃ ed, ed = es[j] := ⟨_, rfl⟩
      have hG := hide (hD.out ed wr (cu_below hb.out hC.out (cell_lt hC.out)))
      have hhit := hide (fun (h : eqC c ed = true) => qIdx_hit (q := eqC c) hlt (by rw [← hed]; exact h))
      have hmiss := hide (fun (h : eqC c ed = false) => qIdx_miss (q := eqC c) hlt (by rw [← hed]; exact h))
      rw [← hed] at c0 c1 c2
      replace hed := hide hed
      obtain ⟨t, ht⟩ : ∃ t, t = eqC c ed := ⟨_, rfl⟩
      rw [← ht] at hG hhit hmiss
      replace ht := hide ht
      have ij : (0 : Int) ≤ (j : Int) ∧ (j : Int) < (es.length : Int) := by omega
      cases t with
      | true =>
        have hq := hide (hhit.out rfl)
        clear hhit hmiss
        go_wp2_with fail
        refine hG.out.mono ?_
        rintro e w1 ⟨rfl, hb1⟩
        go_wp2
        go_ret
        exact ⟨ret_int (by rw [hrest.out, hq.out]), hb.out.trans (hb1.mono hz)⟩
      | false =>
        have hq := hide (hmiss.out rfl)
        clear hhit hmiss
        go_wp2_with fail
        refine hG.out.mono ?_
        rintro e w1 ⟨rfl, hb1⟩
        go_wp2
        go_roundw
        case rel => exact ⟨j + 1, by omega, by go_num, hide (by rw [hrest.out]; exact hq.out), hide (hb.out.trans (hb1.mono hz))⟩
        case measure => simp [intOf]; omega
    · go_wp2
      go_ret
      refine ⟨ret_int ?_, hb.out⟩
      rw [hrest.out, List.drop_eq_nil_of_le (by omega)]
      rfl
def DelBackC (xs : List Ed) (v : Value) (w : World) (e : Ending) (w' : World) : Prop := ∃ a c, e = .returned (.slice a xs.length c) ∧ Row encE 3 w' w'.heap.size a xs ∧ Keep (fun j => v.ownBlock = some j) w w' ∧ ∀ b, (Value.slice a xs.length c).ownBlock = some b → v.ownBlock = some b
set_option maxRecDepth 100000 in
set_option maxHeartbeats 4000000 in
theorem delc_any (c : Int) (bv : Nat) (an : Option Addr) (cn m base : Nat) (es : List Ed) (hm : es.length = m) (w : World) (own0 : Own encE 3 34 w base (.slice an m cn) es) (hC : w.cell? ⟨bv, 0, none⟩ = some (.int .i64 c)) (hg : bv < base) (hel : m ≤ 1000000) :
    Calls Try.prog 19 #[.slice an m cn, .func (.func 20) #[] #[.pointer (some ⟨bv, 0, none⟩)]] w (DelBackC (notC c es) (.slice an m cn) w) := by
  have hI := hide (ixc_any c bv an cn m es hm w w.heap.size (Nat.le_refl _) own0.rowE hC hel)
  have hD := hide (fun (ed : Ed) w hC => tc1_any c bv ed w hC)
  rcases qIdx_say (q := eqC c) es 0 with ⟨h1, h2⟩ | ⟨i0, hi0, h1, h2, h3⟩
  · rw [h1] at hI
    have hall := hide (notC_all h2)
    replace own0 := hide own0
    replace hm := hide hm
    clear hC h1 h2
    go_enter Try.func19, Try.ntmps19
    go_wp2_with fail
    refine hI.out.mono ?_
    rintro e w1 ⟨rfl, hb1⟩
    have hr1 := hide ((own0.out.stays hb1).rowE)
    have hk1 := hide (show Keep (fun j => (Value.slice an m cn).ownBlock = some j) w w1 from Keep.new hb1)
    go_wp2
    go_ret
    exact ⟨an, cn, by rw [hall.out, hm.out]; rfl, by rw [hall.out]; exact hr1.out, hk1.out, fun b hb => by cases an with | none => (simp [Value.ownBlock] at hb) | some a => exact hb⟩
  · rw [h1, Nat.zero_add] at hI
    have hfst := hide (notC_first hi0 h2 h3)
    obtain ⟨g, rfl, hg1, hg2⟩ := own0.blockI (by omega)
    have hmc : m ≤ cn := by
      obtain ⟨_, _, hv', _, hle, _⟩ := own0.row lenE
      injection hv' with g1 g2 g3
      omega
    have him : i0 < m := by omega
    have hneg : ((i0 : Int) == -1) = false := by first | (simp; done) | (simp; omega)
    replace own0 := hide own0
    replace hm := hide hm
    replace hC := hide hC
    clear h1 h2 h3 hi0
    go_enter Try.func19, Try.ntmps19
    go_wp2_with fail
    refine hI.out.mono ?_
    rintro e w1 ⟨rfl, hb1⟩
    have own1 := hide (own0.out.stays hb1)
    have hk1 := hide (show Keep (fun j => j = g) w w1 from Keep.new hb1)
    clear hb1 hI
    go_wp2
    clear hneg
    go_loopw [5, 6, 7] (fun s5 s6 _ wr => ∃ (j i : Nat) (ys : List Ed), i < j ∧ j ≤ m ∧ s5 = .int .i64 i ∧ s6 = .int .i64 j ∧ Hid (ys.length = m) ∧ Hid (notC c (es.take j) = ys.take i) ∧ Hid (∀ t, j ≤ t → ys[t]? = es[t]?) ∧ Hid (Own encE 3 34 wr base (.slice (some ⟨g, 0, none⟩) m cn) ys) ∧ Hid (Keep (fun j => j = g) w wr)) (fun _ s6 _ _ => m - (intOf s6).toNat)
    case atStart => exact ⟨i0 + 1, i0, es, by omega, by omega, rfl, by first | rfl | go_num, hm, hfst, hide (fun t _ => rfl), own1, hk1⟩
    case round =>
      clear own1 hk1
      obtain ⟨j, i, ys, hij, hj, rfl, rfl, hyl, hins, htl, own, hK⟩ := hrel
      have hgl := own.out.at_base.2
      have fr := own.out.free
      by_cases hlt : j < m
      · have hje : j < es.length := by rw [hm.out]; exact hlt
        have hjy : j < ys.length := by rw [hyl.out]; exact hlt
        have hiy : i < ys.length := by omega
        have hye : ys[j] = es[j] := by
          have := htl.out j (Nat.le_refl _)
          rw [List.getElem?_eq_getElem hjy, List.getElem?_eq_getElem hje] at this
          exact Option.some.inj this
        obtain ⟨q0, q1, q2⟩ := own.out.getE j hjy
        obtain ⟨p0, p1, p2⟩ := own.out.getE i hiy
        have htk := hide (notC_take (c := c) hje)
        rw [hye] at q0 q1 q2
        obtain ⟨ed, hed⟩ : ∃ ed, ed = es[j] := ⟨_, rfl⟩
        rw [← hed] at q0 q1 q2 htk hye
        have hcr := hK.out.cu hC.out (by simp; omega)
        have hG := hide (fun w' (hb : Below wr.heap.size wr w') => hD.out ed w' (cu_below hb hcr (cell_lt hcr)))
        obtain ⟨sb, hsb⟩ : ∃ sb, sb = eqC c ed := ⟨_, rfl⟩
        rw [← hsb] at htk hG
        replace hed := hide hed
        replace hsb := hide hsb
        replace hye := hide hye
        have ij : (0 : Int) ≤ (j : Int) ∧ (j : Int) < (m : Int) := by omega
        have ii : (0 : Int) ≤ (i : Int) ∧ (i : Int) < (m : Int) := by omega
        clear hcr
        cases sb with
        | false =>
          simp only [if_true] at htk
          go_wp2_with fail
          refine (hG.out _ ((Below.refl _ _).alloc (Nat.le_refl _) _)).mono ?_
          rintro e w5 ⟨rfl, hb5⟩
          have y0 := cu_below hb5 (show (wr.alloc (.cells #[.int .i64 ed.u, .int .i64 ed.v, .int .i64 ed.c] 34)).cell? ⟨wr.heap.size, 0, none⟩ = some (.int .i64 ed.u) by simp [go_sem]) (by simp)
          have y1 := cu_below hb5 (show (wr.alloc (.cells #[.int .i64 ed.u, .int .i64 ed.v, .int .i64 ed.c] 34)).cell? ⟨wr.heap.size, 1, none⟩ = some (.int .i64 ed.v) by simp [go_sem]) (by simp)
          have y2 := cu_below hb5 (show (wr.alloc (.cells #[.int .i64 ed.u, .int .i64 ed.v, .int .i64 ed.c] 34)).cell? ⟨wr.heap.size, 2, none⟩ = some (.int .i64 ed.c) by simp [go_sem]) (by simp)
          have hz5 : wr.heap.size < w5.heap.size := by have := cell_lt y0; simpa using this
          have hb5' := unalloc (hb5.mono (by simp)) (Nat.le_refl _)
          have own5 := hide (own.out.stays hb5')
          have hK5 := hide (hK.out.trans (Keep.new hb5' : Keep (fun j => j = g) wr w5))
          have p0 := cu_below hb5' p0 (by simpa using hgl)
          have p1 := cu_below hb5' p1 (by simpa using hgl)
          have p2 := cu_below hb5' p2 (by simpa using hgl)
          have fr5 := own5.out.free
          have hgl5 : g < w5.heap.size := by omega
          have own6 := hide (own5.out.putE i hiy ed)
          have hK6 := hide (((hK5.out.setCell (p := ⟨g, i * 3, none⟩) (.inl rfl) (.int .i64 ed.u)).setCell (p := ⟨g, i * 3 + 1, none⟩) (.inl rfl) (.int .i64 ed.v)).setCell (p := ⟨g, i * 3 + 2, none⟩) (.inl rfl) (.int .i64 ed.c))
          have htk2 := hide (show (ys.set i ed).take (i + 1) = ys.take i ++ [ed] by
            rw [List.take_succ_eq_append_getElem (by simpa using hiy), List.getElem_set_self]
            congr 1
            apply List.ext_getElem
            · simp
            · intro t h1 h2
              rw [List.length_take] at h2
              simp only [List.getElem_take]
              rw [List.getElem_set_ne (by omega)])
          replace hb5' := hide hb5'
          clear hb5 q0 q1 q2
          go_wp2
          go_roundw
          case rel => exact ⟨j + 1, i + 1, ys.set i ed, by omega, by omega, by go_num, by go_num, hide (by rw [List.length_set]; exact hyl.out), hide (by rw [htk.out, htk2.out, hins.out]), hide (fun t ht => by rw [List.getElem?_set_ne (by omega)]; exact htl.out t (by omega)), own6, hK6⟩
          case measure => simp [intOf]; omega
        | true =>
          simp only [Bool.true_eq_false, if_false] at htk
          go_wp2_with fail
          refine (hG.out _ ((Below.refl _ _).alloc (Nat.le_refl _) _)).mono ?_
          rintro e w5 ⟨rfl, hb5⟩
          have own5 := hide (own.out.stays (unalloc (hb5.mono (by simp)) (Nat.le_refl _)))
          have hK5 := hide (hK.out.trans (Keep.new (unalloc (hb5.mono (by simp)) (Nat.le_refl _) : Below wr.heap.size wr w5)))
          go_wp2
          go_roundw
          case rel => exact ⟨j + 1, i, ys, by omega, by omega, by go_num, by go_num, hyl, hide (by rw [htk.out]; exact hins.out), hide (fun t ht => htl.out t (by omega)), own5, hK5⟩
          case measure => simp [intOf]; omega
      · obtain rfl : j = m := by omega
        have hcl := fun ty => run_clearE wr ty g (i * 3) (j - i) (cn - i) (by omega) (fun t ht => by
          have hq : (i * 3 + t) / 3 < ys.length := by rw [hyl.out]; omega
          obtain ⟨q0, q1, q2⟩ := own.out.getE _ hq
          have : (i * 3 + t) % 3 = 0 ∨ (i * 3 + t) % 3 = 1 ∨ (i * 3 + t) % 3 = 2 := by omega
          rcases this with h | h | h
          · rw [show i * 3 + t = (i * 3 + t) / 3 * 3 by omega, q0]; rfl
          · rw [show i * 3 + t = (i * 3 + t) / 3 * 3 + 1 by omega, q1]; rfl
          · rw [show i * 3 + t = (i * 3 + t) / 3 * 3 + 2 by omega, q2]; rfl) (fun t _ => fr _)
        have hins2 := hins.out
        rw [List.take_of_length_le (by have := hm.out; omega)] at hins2
        have hpl := hide (show (notC c es).length = i by rw [hins2, List.length_take]; have := hyl.out; omega)
        have hfin := hide (show Row encE 3 (wr.setCells g (i * 3) (zer (j - i))) (wr.setCells g (i * 3) (zer (j - i))).heap.size (some ⟨g, 0, none⟩) (notC c es) ∧ Keep (fun j => j = g) w (wr.setCells g (i * 3) (zer (j - i))) from by
          have hk2 : Keep (fun j => j = g) w (wr.setCells g (i * 3) (zer (j - i))) := Keep.setCells (S := fun j => j = g) (b := g) rfl _ _ _ hK.out
          have hk3 : Keep (fun j => j = g) wr (wr.setCells g (i * 3) (zer (j - i))) := Keep.setCells (S := fun j => j = g) (b := g) rfl _ _ _ (Keep.refl _ _)
          refine ⟨?_, hk2⟩
          rw [hins2]
          intro t ht
          rw [List.length_take] at ht
          have hty : t < ys.length := by omega
          refine ⟨g, 0, rfl, Nat.lt_of_lt_of_le hgl hk3.size, fun x u hu => ?_⟩
          rw [List.getElem_take] at hu
          have hx : x < 3 := by have := (List.getElem?_eq_some_iff.1 hu).1; rw [lenE] at this; exact this
          rw [World.cell?_setCells_out g _ _ _ _ (fun _ _ => .inl (by simp; omega)), Nat.zero_add]
          exact own.out.get lenE t hty x u hu)
        have hij2 : i ≤ j := by omega
        have hic : i ≤ cn := by omega
        replace hfst := hide hfst
        go_wp2_with (simp only [hcl])
        go_ret
        exact ⟨some ⟨g, 0, none⟩, cn, by rw [hpl.out]; rfl, hfin.out.1, hfin.out.2.mono (fun t _ h => by subst h; rfl), fun b hb => by simpa [Value.ownBlock] using hb⟩
end Go.Proofs.Ytcehdpeeaogpiaa
