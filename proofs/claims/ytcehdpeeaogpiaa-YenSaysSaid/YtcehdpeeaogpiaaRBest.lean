/-
  What the reference's Best returns: all ways in order, each once. Conditions: a right net of at most 6 places and 12 edges.
-/
import Derived.Test.YtcehdpeeaogpiaaRSim
import Derived.Test.YtcehdpeeaogpiaaYenT
import Derived.Test.YtcehdpeeaogpiaaInsY
import Derived.Test.YtcehdpeeaogpiaaHeldEnd
namespace Go.Proofs.Ytcehdpeeaogpiaa
open Go.RowKit
set_option linter.unusedSimpArgs false
set_option linter.unusedVariables false
theorem edN_v {es : List Ed} {n : Nat} (hes : Right n es) (hn : 0 < n) (i : Nat) : (edN es i).v.toNat < n := by
  by_cases h : i < es.length
  · have := hes (edN es i) (edN_mem h)
    omega
  · unfold edN
    rw [List.getD, List.getElem?_eq_none (by omega)]
    exact hn
theorem simF_few {es : List Ed} {n t : Nat} (hes : Right n es) (hE : es.length ≤ 12) : ∀ (f u : Nat) (seen : List Nat), u < n → seen.Nodup → (∀ v ∈ seen, v < n) → u ∉ seen → n ≤ seen.length + (f + 1) → (simF es t (f + 1) u seen).length ≤ 12 ^ f := by
  intro f
  induction f with
  | zero =>
    intro u seen hu hd hs hus hl
    by_cases h : u = t
    · unfold simF; rw [if_pos h]; simp
    · rw [simF_go h]
      have : ∀ i, (simStep es t 0 u seen i).length ≤ 0 := fun i => by
        unfold simStep
        split
        · rename_i hc
          exfalso
          have h1 := nodup_fits0 (n := n) ((edN es i).v.toNat :: u :: seen) (List.nodup_cons.2 ⟨fun h2 => by
            rcases List.mem_cons.1 h2 with h2 | h2
            · have := edN_v hes (by omega) i
              have h3 := hc.2.2
              by_cases hi : i < es.length
              · have := hes (edN es i) (edN_mem hi); omega
              · unfold edN at h2 h3; rw [List.getD, List.getElem?_eq_none (by omega)] at h2 h3; simp at h2 h3; omega
            · exact hc.2.1 h2, List.nodup_cons.2 ⟨hus, hd⟩⟩) (fun v hv => by
            rcases List.mem_cons.1 hv with rfl | hv
            · exact edN_v hes (by omega) i
            · rcases List.mem_cons.1 hv with rfl | hv
              · exact hu
              · exact hs v hv)
          simp at h1
          omega
        · simp
      have := flat_len_le (simStep es t 0 u seen) 0 this es.length
      omega
  | succ f ih =>
    intro u seen hu hd hs hus hl
    by_cases h : u = t
    · unfold simF; rw [if_pos h]; exact Nat.pow_pos (by omega)
    · rw [simF_go h]
      have : ∀ i, (simStep es t (f + 1) u seen i).length ≤ 12 ^ f := fun i => by
        unfold simStep
        split
        · rename_i hc
          rw [List.length_map]
          have hne : (edN es i).v.toNat ≠ u := fun h2 => by
            have h3 := hc.2.2
            by_cases hi : i < es.length
            · have := hes (edN es i) (edN_mem hi); omega
            · unfold edN at h2 h3; rw [List.getD, List.getElem?_eq_none (by omega)] at h2 h3; simp at h2 h3; omega
          refine ih _ _ (edN_v hes (by omega) i) (List.nodup_append.2 ⟨hd, by simp, fun a ha b hb e => by simp at hb; subst e; subst hb; exact hus ha⟩) (fun v hv => by
            rcases List.mem_append.1 hv with hv | hv
            · exact hs v hv
            · simp at hv; omega) (fun h => by
            rcases List.mem_append.1 h with h | h
            · exact hc.2.1 h
            · simp at h; exact hne h) (by rw [List.length_append]; simp; omega)
        · simp
      have := flat_len_le (simStep es t (f + 1) u seen) (12 ^ f) this es.length
      refine Nat.le_trans this ?_
      rw [Nat.pow_succ, Nat.mul_comm]
      exact Nat.mul_le_mul_left _ hE
/-- a way that reads, in a block of numbers -/
def TY (w : World) (x : Yv) : Prop := PB w x ∧ ∃ b o cur, x.a = some ⟨b, o, none⟩ ∧ w.heap[b]? = some (.cells cur 3 (0, 0))
theorem TY.keep {S : Nat → Prop} {w w' : World} {x : Yv} (h : TY w x) (k : Keep S w w') (hS : ∀ b cur, S b → w.heap[b]? ≠ some (.cells cur 3 (0, 0))) : TY w' x := by
  obtain ⟨h1, b, o, cur, h2, h3⟩ := h
  have hnb : ¬ S b := fun e => hS b cur e h3
  refine ⟨h1.keep k (fun ad had => ?_), b, o, cur, h2, ?_⟩
  · rw [h2] at had; cases had; exact hnb
  · rw [k.block b (Array.getElem?_eq_some_iff.1 h3).1 hnb]; exact h3
theorem TY.stays {w w' : World} {x : Yv} (h : TY w x) (k : Below w.heap.size w w') : TY w' x := h.keep (Keep.new (S := fun _ => False) k) (fun _ _ h => h.elim)
/-- what a slice of ways writes to is no block of numbers -/
theorem way_ne {w : World} {base : Nat} {v : Value} {xs : List Yv} (h : Own encY 2 36 w base v xs) : ∀ b cur, v.ownBlock = some b → w.heap[b]? ≠ some (.cells cur 3 (0, 0)) := by
  intro b cur hb e
  obtain ⟨cur2, h2⟩ := h.type hb
  rw [h2] at e
  simp at e
theorem ty_own {w : World} {base : Nat} {a : Option Addr} {n c : Nat} {p : List Nat} (k : Int) (h : Own encI 1 3 w base (.slice a n c) (NI p)) (hp : 0 < n) : TY w ⟨a, n, c, k, p⟩ := by
  obtain ⟨a', c', hv, hr, h1, h2⟩ := h.row lenI
  obtain ⟨g, rfl, hg1, hg2⟩ := h.blockI hp
  obtain ⟨cur, hc⟩ := h.type (k := g) rfl
  injection hv with q1 q2 q3
  subst q1 q3
  exact ⟨⟨by rw [q2, ni_len], by simp only; omega, by unfold maxLen at h2; exact h2, hr⟩, g, 0, cur, rfl, hc⟩
theorem step_pushLY {α : Type} {enc : α → List Value} {sz : Nat} {e : TypeId} {w : World} {base : Nat} {v : Value} {xs : List α} {P : Program} {ops : Array Oper} {o : Oper} {a : Act} {K : Act → World → Prop} {Q : Exit → Act → World → Prop} {E : Prop} (hgd : o.guard = none) (s x : Operand) (t : TypeId)
    (ho : o.op = .call { callee := .builtin .append, args := #[s, x], argTypes := #[t, t] })
    (z : Value) (bytes : Nat) (ht : P.underlying t = some (.slice e)) (hinf : (P.info? e).map (fun i => (i.zero, i.size, i.bytes)) = some (some z, sz, bytes)) (hzs : z.cells.size = sz) (hsz : 0 < sz)
    (hlen : ∀ x, (enc x).length = sz) (hone : ∀ x, ∀ u ∈ enc x, u.oneCell' = true)
    (n : Nat) (hn : xs.length = n) (hs : a.eval s = v) (own : Own enc sz e w base v xs) (ad : Addr) (c : Nat) (y : α) (hx : a.eval x = .slice (some ad) 1 c)
    (hcells : ∀ j u, (enc y)[j]? = some u → w.cell? (ad.add j) = some u) (hbound : (n + 1) * bytes ≤ 140737488355328) (hmax : n + 1 ≤ maxLen) (hbase : base ≤ w.heap.size)
    (h : ∀ g c' w', Own enc sz e w' base (.slice (some ⟨g, 0, none⟩) (n + 1) c') (xs ++ [y]) → w.grownBy w' v.ownBlock → (v.ownBlock = some g ∨ g = w.heap.size) → g < w'.heap.size → K (a.put o.dst (.slice (some ⟨g, 0, none⟩) (n + 1) c')) w') :
    if Region.wanted o (yielded ops a.tmps) = true then Oper.wp P o a w K Q else E := by
  subst hn
  obtain ⟨i0, hi, hz0, hz1, hz2⟩ := info_parts hinf
  refine step_append_lies w hgd s x t ho base e i0 z sz bytes ht hi hz0 hz1 hz2 hzs hsz v xs.length (xs.flatMap enc) hs own ad 1 c (enc y) hx (by rw [hlen, Nat.one_mul]) hcells (hone y) (by omega) hmax hbound hbase w.heap.size rfl ?_
  intro g cap w' own' hg hat hlt
  have own2 : Own enc sz e w' base (.slice (some ⟨g, 0, none⟩) (xs.length + 1) cap) (xs ++ [y]) := by
    unfold Own
    rw [List.length_append, List.flatMap_append]
    simpa using own'
  exact h g cap w' own2 hg hat hlt
/-- the ways of some lists of edges, put in order -/
def insAll (es : List Ed) (s : Nat) (ls : List (List Nat)) : List Wy := ls.foldl (fun o l => insY (wyOf es s l) o) []
theorem insAll_take {es : List Ed} {s : Nat} {ls : List (List Nat)} {k : Nat} (h : k < ls.length) : insAll es s (ls.take (k + 1)) = insY (wyOf es s ls[k]) (insAll es s (ls.take k)) := by
  unfold insAll
  rw [List.take_succ_eq_append_getElem h, List.foldl_append]
  rfl
theorem posY_le (w : Wy) : ∀ l, posY w l ≤ l.length
  | [] => Nat.le_refl _
  | x :: r => by
    unfold posY
    have := posY_le w r
    split <;> simp <;> omega
theorem posY_go {w : Wy} {l : List Wy} {i : Nat} (h : i < l.length) (hl : yLt l[i] w = true) : posY w (l.drop i) = posY w (l.drop (i + 1)) + 1 := by
  rw [List.drop_eq_getElem_cons h, posY, if_pos hl]
theorem posY_stop {w : Wy} {l : List Wy} {i : Nat} (h : i < l.length) (hl : yLt l[i] w = false) : posY w (l.drop i) = 0 := by
  rw [List.drop_eq_getElem_cons h, posY, if_neg (by simp [hl])]
/-- what Best returns -/
def BBack (es : List Ed) (s t : Nat) (w : World) (e : Ending) (w' : World) : Prop := ∃ (ao : Option Addr) (co : Nat) (xs : List Yv), e = .returned (.slice ao xs.length co) ∧ xs.map Yv.wy = bestF es s t 6 ∧ Row encY 2 w' w'.heap.size ao xs ∧ (∀ x ∈ xs, PB w' x) ∧ xs.length ≤ 248832 ∧ xs.length ≤ co ∧ co ≤ 9223372036854775807 ∧ Below w.heap.size w w'
theorem own_rowW {e : TypeId} {w : World} {base n c : Nat} {a : Option Addr} {xs : List Yv} (h : Own encY 2 e w base (.slice a n c) xs) : Row encY 2 w w.heap.size a xs := by
  obtain ⟨a', c', hv, hr, _⟩ := h.row lenY
  injection hv with q1 q2 q3
  subst q1
  exact hr
set_option maxRecDepth 100000 in
set_option maxHeartbeats 4000000 in
theorem rbest_any (n : Nat) (a : Option Addr) (cap : Nat) (es : List Ed) (s t : Nat) (w : World) (B : Nat) (hB : B ≤ w.heap.size) (hE : Row encE 3 w B a es) (hes : Right n es) (hE12 : es.length ≤ 12) (hn : n ≤ 6) (hs : s < n) :
    Calls Try.prog 74 #[.agg #[.int .i64 (n : Int), .slice a es.length cap], .int .i64 (s : Int), .int .i64 (t : Int)] w (BBack es s t w) := by
  obtain ⟨rows, hrw⟩ : ∃ rows, rows = simF es t 6 s [] := ⟨_, rfl⟩
  have hbest := hide (show bestF es s t 6 = (insAll es s rows).foldl stepY [] by unfold bestF insAll; rw [onceY_eq, hrw])
  obtain ⟨L, hL⟩ : ∃ L, L = rows.length := ⟨_, rfl⟩
  have hL2 : L ≤ 248832 := by
    rw [hL, hrw]
    exact Nat.le_trans (simF_few hes hE12 5 s [] hs List.nodup_nil (fun v hv => by cases hv) (by simp) (by simpa using hn)) (by decide)
  have hrl := hide (fun (l : List Nat) (h : l ∈ rows) => (show l.length ≤ 6 ∧ ∀ i ∈ l, i < es.length from by
    rw [hrw] at h
    refine ⟨simF_row 6 s [] l h, ?_⟩
    have h2 := ((simF_mem (t := t) hes 6 s [] hs List.nodup_nil (fun v hv => by cases hv) (by simp) (by simpa using hn) l).1 h).1
    have key : ∀ (l : List Nat) (u : Nat), EP es t u l → ∀ i ∈ l, i < es.length := by
      intro l
      induction l with
      | nil => intro u _ i hi; cases hi
      | cons j l ih =>
        intro u h i hi
        rcases List.mem_cons.1 hi with rfl | hi
        · exact h.2.1
        · exact ih _ h.2.2.2 i hi
    exact key l s h2))
  have hSim := hide (fun (w' : World) (hb : Below w.heap.size w w') => (show Calls Try.prog 154 #[.agg #[.int .i64 (n : Int), .slice a es.length cap], .int .i64 (s : Int), .int .i64 (t : Int), .slice none 0 0] w' (SBack rows w') from by
    rw [hrw]
    exact rsimple_any n a cap es t hes hE12 hn 6 s [] none 0 0 w' B (by have := hb.size; omega) (hE.below hb hB) hs rfl List.nodup_nil (fun v hv => by cases hv) (by simp) (by omega) (Nat.le_refl _) (Row.nil _ _ _ _ _) (fun _ => rfl)))
  have hSum := hide (fun (w' : World) (al : Option Addr) (m cl : Nat) (l : List Nat) (hb : Below w.heap.size w w') (h1 : Row encI 1 w' w'.heap.size al (NI l)) (h2 : l.length = m) (h3 : m ≤ 1000) (h4 : ∀ i ∈ l, i < es.length) (r : Int) (hr : r = sumE es l) => rsum_any n a cap es al m cl l w' B (by have := hb.size; omega) (hE.below hb hB) h1 h2 h3 hes h4 (by omega) r hr)
  replace hE := hide hE
  replace hes := hide hes
  replace hrw := hide hrw
  go_enter Try.func74, Try.ntmps74
  go_wp2_with fail
  refine (hSim.out _ (by repeat (first | with_reducible exact Below.refl _ _ | with_reducible assumption | with_reducible refine up_drewN ?_ | with_reducible refine up_drew ?_ | (with_reducible refine up_alloc ?_ ?_; rotate_left; (first | omega | (simp <;> omega) | simp)) | (with_reducible refine up_set ?_ ?_; rotate_left; (first | omega | (simp <;> omega) | simp)) | (with_reducible refine Below.trans ?_ (Below.mono (by with_reducible assumption) ?_); rotate_left; (first | omega | (simp <;> omega) | simp))))).mono ?_
  rintro e W2 ⟨ax, cx, rfl, hrows, hb2⟩
  have hbW2 := hide (show Below w.heap.size w W2 from (by repeat (first | with_reducible exact Below.refl _ _ | with_reducible assumption | with_reducible refine up_drewN ?_ | with_reducible refine up_drew ?_ | (with_reducible refine up_alloc ?_ ?_; rotate_left; (first | omega | (simp <;> omega) | simp)) | (with_reducible refine up_set ?_ ?_; rotate_left; (first | omega | (simp <;> omega) | simp)) | (with_reducible refine Below.trans ?_ (Below.mono (by with_reducible assumption) ?_); rotate_left; (first | omega | (simp <;> omega) | simp)))))
  have hz2 : w.heap.size + 1 ≤ W2.heap.size := by have := hb2.size; simpa using this
  have x0 : W2.cell? ⟨w.heap.size, 0, none⟩ = some (.int .i64 n) := cu_below hb2 (by simp [go_sem]) (by simp)
  have x1 : W2.cell? ⟨w.heap.size, 1, none⟩ = some (.slice a es.length cap) := cu_below hb2 (by simp [go_sem]) (by simp)
  rw [← hL]
  replace hrows := hide hrows
  replace hL := hide hL
  clear hb2 hSim
  go_wp2_with fail
  go_loopw [7, 22] (fun s7 s22 wr => ∃ (k : Nat) (ao : Option Addr) (co : Nat) (xs : List Yv), s22 = .int .i64 k ∧ s7 = .slice ao k co ∧ k ≤ L ∧ Hid (xs.length = k) ∧ Hid (xs.map Yv.wy = insAll es s (rows.take k)) ∧ Hid (Own encY 2 36 wr W2.heap.size (.slice ao k co) xs) ∧ Hid (∀ x ∈ xs, TY wr x) ∧ Hid (Below W2.heap.size W2 wr)) (fun _ s22 _ => L - (intOf s22).toNat)
  case atStart => exact ⟨0, none, 0, [], rfl, rfl, by omega, hide rfl, hide rfl, hide (Own.nil _ _), hide (fun x hx => by cases hx), hide (Below.refl _ _)⟩
  case round =>
    obtain ⟨k, ao, co, xs, rfl, rfl, hk, hxl, hxm, hown, hty, hb⟩ := hrel
    obtain ⟨wq, rfl⟩ : ∃ wq : World, wq = wr := ⟨_, rfl⟩
    have hzq := hb.out.size
    have hbw := hide (hbW2.out.trans (hb.out.mono hbW2.out.size))
    have q0 := cu_below hb.out x0 (by simp; omega)
    have q1 := cu_below hb.out x1 (by simp; omega)
    have qz : w.heap.size < wq.heap.size := by omega
    have hwk : IntKind.i64.wrap ((k : Int) + 1) = (k : Int) + 1 := by rw [IntKind.wrap_i64]; omega
    by_cases hlt : k < L
    · have hkr : k < rows.length := by rw [← hL.out]; exact hlt
      obtain ⟨l, hl⟩ : ∃ l, l = rows[k] := ⟨_, rfl⟩
      have hrow := (hrows.out.below hb.out (Nat.le_refl _)) k hkr
      obtain ⟨hl6, hlE⟩ := hrl.out l (by rw [hl]; exact List.getElem_mem hkr)
      have hins := hide (insAll_take (es := es) (s := s) hkr)
      rw [← hl] at hrow hins
      obtain ⟨bx, ox, v0, rfl, hbx1, hbx2, cx0, al, cl, rfl, _, _, hRl⟩ := hrow
      obtain ⟨ll, hll⟩ : ∃ ll, ll = l.length := ⟨_, rfl⟩
      rw [← hll] at cx0 hl6
      have hbx3 : bx < wq.heap.size := cell_lt cx0
      obtain ⟨su, hsu⟩ : ∃ su, su = sumE es l := ⟨_, rfl⟩
      have hikL : (0 : Int) ≤ (k : Int) ∧ (k : Int) < (L : Int) := by omega
      -- the place it begins at, in a block of its own
      obtain ⟨wA, hwA⟩ : ∃ wA, wA = wq.alloc (.cells #[.int .i64 (s : Int)] 3) := ⟨_, rfl⟩
      have hbA : Below wq.heap.size wq wA := by rw [hwA]; exact up_alloc (Below.refl _ _) (Nat.le_refl _)
      have hlit : Own encI 1 3 wA wq.heap.size (.slice (some ⟨wq.heap.size, 0, none⟩) 1 1) [(s : Int)] := by rw [hwA]; exact own_litY wq 3 wq.heap.size (Nat.le_refl _) (s : Int)
      have hzA : wA.heap.size = wq.heap.size + 1 := by rw [hwA]; simp
      have hRlA := hide ((hRl.mono hzq).below hbA (Nat.le_refl _) |>.mono (by omega : wq.heap.size ≤ wA.heap.size))
      have hS2 := hide (hSum.out wA al ll cl l (hbw.out.trans (hbA.mono (by omega))) hRlA.out hll.symm (by omega) hlE su hsu)
      have qA0 := cu_below hbA q0 qz
      have qA1 := cu_below hbA q1 qz
      replace hl := hide hl
      replace hll := hide hll
      replace hsu := hide hsu
      replace hlit := hide hlit
      replace hbA := hide hbA
      replace hlE := hide hlE
      have hrow0 := hide hRl
      clear hRl
      go_wp2_with fail
      simp only [← hwA]
      replace hwA := hide hwA
      refine hS2.out.mono ?_
      rintro e w5 ⟨rfl, hb5⟩
      have hbq5 := hide (hbA.out.trans (hb5.mono (by omega)))
      have hz5 := hb5.size
      have hlit5 := hlit.out.stays hb5
      have hRl5 := hide (hRlA.out.below hb5 (Nat.le_refl _))
      have q50 := cu_below hbq5.out q0 qz
      have q51 := cu_below hbq5.out q1 qz
      obtain ⟨bw, hbwe⟩ : ∃ bw, bw = w5.heap.size := ⟨_, rfl⟩
      obtain ⟨w6, hw6⟩ : ∃ w6, w6 = w5.alloc (.cells #[.slice (some ⟨wq.heap.size, 0, none⟩) 1 1, .int .i64 su] 36) := ⟨_, rfl⟩
      have hb56 : Below w5.heap.size w5 w6 := by rw [hw6]; exact up_alloc (Below.refl _ _) (Nat.le_refl _)
      have hbq6 := hide (hbq5.out.trans (hb56.mono (by omega)))
      have hlit6 := hide (hlit5.stays hb56)
      have t0 : w6.cell? ⟨bw, 0, none⟩ = some (.slice (some ⟨wq.heap.size, 0, none⟩) 1 1) := by rw [hw6, hbwe]; simp [go_sem]
      have t1 : w6.cell? ⟨bw, 1, none⟩ = some (.int .i64 su) := by rw [hw6, hbwe]; simp [go_sem]
      have tf : w6.frozen? ⟨bw, 0, none⟩ = false := by rw [hw6, hbwe]; simp [go_sem]
      have hbwq : wq.heap.size < bw := by omega
      have hRlq := hide (hrow0.out.mono hzq)
      replace hlE := hlE.out
      go_wp2_with fail
      simp only [← hw6]
      simp only [← hbwe]
      replace hw6 := hide hw6
      replace hbwe := hide hbwe
      clear hlit5 hb56 hb5 hRl5 hRlA hS2 q50 q51 qA0 qA1
      go_loopw [34] (fun s34 wr => ∃ (j : Nat) (ap : Option Addr) (cp : Nat), s34 = .int .i64 j ∧ j ≤ ll ∧ wr.cell? ⟨bw, 0, none⟩ = some (.slice ap (j + 1) cp) ∧ wr.cell? ⟨bw, 1, none⟩ = some (.int .i64 su) ∧ wr.frozen? ⟨bw, 0, none⟩ = false ∧ Hid (Own encI 1 3 wr wq.heap.size (.slice ap (j + 1) cp) (NI (s :: (l.take j).map (fun i => (edN es i).v.toNat)))) ∧ Hid ((Value.slice ap (j + 1) cp).ownBlock ≠ some bw) ∧ Hid (Below wq.heap.size wq wr)) (fun s34 _ => ll - (intOf s34).toNat)
      case atStart => exact ⟨0, _, 1, rfl, Nat.zero_le _, t0, t1, tf, hlit6, hide (by simp [Value.ownBlock]; omega), hbq6⟩
      case round =>
        clear t0 t1 tf hlit6 hbq6
        obtain ⟨j, ap, cp, rfl, hj, t0, t1, tf, hop, hne, hbr⟩ := hrel
        have tz := cell_lt t0
        simp only at tz
        have hzr := hbr.out.size
        have p0 := cu_below hbr.out q0 qz
        have p1 := cu_below hbr.out q1 qz
        have pz : w.heap.size < wr.heap.size := by omega
        by_cases hjl : j < ll
        · have hjl2 : j < l.length := by rw [← hll.out]; exact hjl
          obtain ⟨b9, o9, rfl, hb9, c9⟩ := hRlq.out.int j (by rw [ni_len]; exact hjl2)
          rw [ni_get l j (by rw [ni_len]; exact hjl2) hjl2] at c9
          have c9 := cu_below hbr.out c9 hb9
          have hb9r : b9 < wr.heap.size := by omega
          have hiE := hlE l[j] (List.getElem_mem hjl2)
          have hnx := hide (show (l.take (j + 1)).map (fun i => (edN es i).v.toNat) = (l.take j).map (fun i => (edN es i).v.toNat) ++ [(edN es l[j]).v.toNat] by rw [List.take_succ_eq_append_getElem hjl2, List.map_append]; rfl)
          generalize l[j] = i at c9 hiE hnx
          obtain ⟨be, oe, rfl, hbe, d0, d1, d2⟩ := (hE.out.below (hbw.out.trans (hbr.out.mono (by omega))) hB).ed i hiE
          have hex : es[i] = edN es i := by unfold edN; rw [List.getD, List.getElem?_eq_getElem hiE]; rfl
          rw [hex] at d1
          have hvr := hes.out (edN es i) (edN_mem hiE)
          obtain ⟨tv, htv⟩ := Int.eq_ofNat_of_zero_le hvr.2.2.1
          rw [htv] at d1 hnx
          rw [Int.toNat_natCast] at hnx
          have iiE : (0 : Int) ≤ (i : Int) ∧ (i : Int) < (es.length : Int) := by omega
          have ijL : (0 : Int) ≤ (j : Int) ∧ (j : Int) < (ll : Int) := by omega
          have hwj : IntKind.i64.wrap ((j : Int) + 1) = (j : Int) + 1 := by rw [IntKind.wrap_i64]; omega
          have hber : be < wr.heap.size := by omega
          have hol := hop.out.block_lt
          have hKey := hide (show ∀ w', Keep (fun z => (Value.slice ap (j + 1) cp).ownBlock = some z) wr w' → (w'.cell? ⟨bw, 0, none⟩ = some (.slice ap (j + 1) cp) ∧ w'.cell? ⟨w.heap.size, 1, none⟩ = some (.slice (some ⟨be, oe, none⟩) es.length cap) ∧ w'.cell? ⟨be, oe + i * 3 + 1, none⟩ = some (.int .i64 (tv : Int)) ∧ w'.frozen? ⟨bw, 0, none⟩ = false) from fun w' kk => ⟨kk.cu t0 hne.out, kk.cu p1 (fun e => by have := (hol _ e).1; simp only at this; omega), kk.cu d1 (fun e => by have := (hol _ e).1; simp only at this; omega), (kk.frozen (p := ⟨bw, 0, none⟩) tz hne.out).trans tf⟩)
          have hlen := hide (show (NI (s :: (l.take j).map (fun i => (edN es i).v.toNat))).length = j + 1 by rw [ni_len, List.length_cons, List.length_map, List.length_take]; omega)
          have hj7 : j ≤ 6 := by omega
          clear hex hvr d0 d2
          replace htv := hide htv
          go_wp2_with fail
          refine wp_region_end (S := (fun w' => w'.cell? ⟨bw, 0, none⟩ = some (.slice ap (j + 1) cp) ∧ w'.cell? ⟨w.heap.size, 1, none⟩ = some (.slice (some ⟨be, oe, none⟩) es.length cap) ∧ w'.cell? ⟨be, oe + i * 3 + 1, none⟩ = some (.int .i64 (tv : Int)) ∧ w'.frozen? ⟨bw, 0, none⟩ = false)) (t := 11) (by kernel_rfl) ?_ (fun hHeld hInv => ?_)
          · exact hKey.out _ (Keep.new (below_drew wr))
          replace hInv := hide hInv
          refine planE [0, 1, 2, 3, 4, 5, 6, 7] ?_
          iterate 8
            refine PlanE.take (v := ?_) (List.getElem?_toArray.trans rfl) (by kernel_rfl) (fun _ _ _ h => h) (Or.inl ⟨by rfl, ?_⟩) hInv.out (by assumption) (fun hInv' => ?_)
            rotate_left
            · intro w hSw; (try dsimp only at hSw); go_simp; (try with_reducible rfl)
            replace hInv := hide hInv'; clear hInv'; try simp only [Act.put, List.setIfInBounds_toArray, List.set_cons_zero, List.set_cons_succ]
          refine wpAnyE_one (i := 8) (List.getElem?_toArray.trans rfl) (by kernel_rfl) (fun K hK => ?_) hInv.out
          (go_simp)
          have hHeld := hKey.out _ (Keep.new (up_alloc (o := .cells #[.int .i64 (tv : Int)] 3) (below_drew wr) (Nat.le_refl _)))
          refine hK.out _ _ (fun _ => hHeld) (fun hInv' => ?_)
          clear hK K; replace hInv := hide (hInv' (by decide)); clear hInv'; try simp only [Act.put, List.setIfInBounds_toArray, List.set_cons_zero, List.set_cons_succ]
          refine wpAnyE_one (i := 9) (List.getElem?_toArray.trans rfl) (by kernel_rfl) (fun K hK => ?_) hInv.out
          (refine step_pushLY (base := wq.heap.size) (e := 3) (enc := encI) (xs := NI (s :: (l.take j).map (fun i => (edN es i).v.toNat))) (v := .slice ap (j + 1) cp) rfl (.tmp 39) (.tmp 46) 29 rfl _ 8 Try.underlying29 info_int rfl ?p1 lenI oneI (j + 1) hlen.out rfl ((hop.out.drew).alloc _) ⟨wr.heap.size, 0, none⟩ 1 (tv : Int) rfl ?p2 ?p3 ?p4 ?p5 ?_; (case p1 => omega); (case p2 => exact newI wr.drew _ _ _ rfl); (case p3 => omega); (case p4 => unfold maxLen; omega); (case p5 => simp; omega); intro g6 c6 w7 own6 hgr6 hat6 hlt6; have kp6 := Keep.grown (S := fun z => (Value.slice ap (j + 1) cp).ownBlock = some z) (Keep.refl _ (wr.drew.alloc (.cells #[.int .i64 (tv : Int)] 3))) hgr6 (fun z hz => .inl hz))
          have hHeld := hKey.out _ ((Keep.new (up_alloc (o := .cells #[.int .i64 (tv : Int)] 3) (below_drew wr) (Nat.le_refl _))).trans kp6)
          refine hK.out _ _ (fun _ => hHeld) (fun hInv' => ?_)
          clear hK K; replace hInv := hide (hInv' (by decide)); clear hInv'; try simp only [Act.put, List.setIfInBounds_toArray, List.set_cons_zero, List.set_cons_succ]
          refine planE [10] ?_
          iterate 1
            refine PlanE.take (v := ?_) (List.getElem?_toArray.trans rfl) (by kernel_rfl) (fun _ _ _ h => h) (Or.inl ⟨by rfl, ?_⟩) hInv.out (by assumption) (fun hInv' => ?_)
            rotate_left
            · intro w hSw; (try dsimp only at hSw); go_simp; (try with_reducible rfl)
            replace hInv := hide hInv'; clear hInv'; try simp only [Act.put, List.setIfInBounds_toArray, List.set_cons_zero, List.set_cons_succ]
          refine wpAnyE_one (i := 11) (List.getElem?_toArray.trans rfl) (by kernel_rfl) (fun K hK => ?_) hInv.out
          (try dsimp only at hHeld); go_simp
          refine hK.out _ _ (fun h => absurd rfl h) (fun _ => ?_)
          clear hK K hInv; try simp only [Act.put, List.setIfInBounds_toArray, List.set_cons_zero, List.set_cons_succ]
          refine wpAnyE_done (by kernel_rfl) ?_ _
          have kp7 := hide ((Keep.new (S := fun z => (Value.slice ap (j + 1) cp).ownBlock = some z) (up_alloc (o := .cells #[.int .i64 (tv : Int)] 3) (below_drew wr) (Nat.le_refl _))).trans kp6)
          have hb7 := hide (show Below wq.heap.size wq w7 from hbr.out.trans (kp7.out.toBelow (fun z hz => (hol z hz).1) (by omega)))
          have u0 := kp7.out.cu t0 hne.out
          have u1 := kp7.out.cu t1 hne.out
          have uf := (kp7.out.frozen (p := ⟨bw, 0, none⟩) tz hne.out).trans tf
          have hne7 := hide (show (Value.slice (some ⟨g6, 0, none⟩) (j + 1 + 1) c6).ownBlock ≠ some bw from fun e => by
            simp only [Value.ownBlock, Option.some.injEq] at e
            subst e
            rcases hat6 with e | e
            · exact hne.out e
            · simp at e; omega)
          replace own6 := hide own6
          clear kp6 hgr6 hat6 hlt6 t0 t1 tf hop hbr
          go_wp2_with fail
          go_roundw
          case rel =>
            refine ⟨j + 1, some ⟨g6, 0, none⟩, c6, by go_num, by omega, ?_, ?_, ?_, hide ?_, hne7, hide ?_⟩
            · exact World.cell?_setCell_same _ _ _ u0
            · exact cu_set_off u1 (by omega)
            · exact fu_set uf
            · rw [hnx.out, show NI (s :: ((l.take j).map (fun i => (edN es i).v.toNat) ++ [tv])) = NI (s :: (l.take j).map (fun i => (edN es i).v.toNat)) ++ [(tv : Int)] by simp [NI]]
              exact own6.out.elsewhere hne7.out _
            · exact hb7.out.setCell (by simp; omega) _
          case measure => simp [intOf]; omega
        · obtain rfl : ll = j := by omega
          obtain ⟨wi, rfl⟩ : ∃ wi : World, wi = wr := ⟨_, rfl⟩
          have hpe : s :: (l.take ll).map (fun i => (edN es i).v.toNat) = plc es s l := by rw [List.take_of_length_le (by rw [hll.out]; exact Nat.le_refl _), plc_eq]
          have hop2 := hop.out
          rw [hpe] at hop2
          have hTy := hide (ty_own su hop2 (by omega))
          obtain ⟨yw, hyw⟩ : ∃ yw, yw = wyOf es s l := ⟨_, rfl⟩
          have hyw2 := hide (show (⟨su, plc es s l⟩ : Wy) = yw by rw [hyw, hsu.out]; rfl)
          rw [← hyw] at hins
          replace hyw := hide hyw
          have hPy := hide (hTy.out.1)
          have hown1 := hide (hown.out.stays hbr.out)
          have hty1 := hide (fun x hx => (hty.out x hx).stays hbr.out)
          have hyl := hide (show (plc es s l).length = ll + 1 from hPy.out.len)
          obtain ⟨yp, hyp⟩ : ∃ yp, yp = plc es s l := ⟨_, rfl⟩
          rw [← hyp] at hTy hyw2 hPy hyl
          replace hyp := hide hyp
          have hbW := hide (hb.out.trans (hbr.out.mono hzq))
          clear hpe hop2 hop hlE
          go_wp2_with fail
          go_loopg [13] (k + 1) (fun gk s13 wr => ∃ i : Nat, i ≤ k ∧ k - i ≤ gk ∧ s13 = .int .i64 i ∧ Hid (posY yw ((xs.map Yv.wy).drop i) + i = posY yw (xs.map Yv.wy)) ∧ Hid (∃ d, wr = wi.drewN d))
          case atStart => exact ⟨0, Nat.zero_le _, by omega, rfl, hide (by simp), ⟨0, rfl⟩⟩
          case round =>
            obtain ⟨i, hi, hgk, rfl, hpos, hwd⟩ := hrel
            obtain ⟨d, rfl⟩ := hwd.out
            have hwi : IntKind.i64.wrap ((i : Int) + 1) = (i : Int) + 1 := by rw [IntKind.wrap_i64]; omega
            have T0 := cu_drewN (n := d) t0
            have T1 := cu_drewN (n := d) t1
            obtain ⟨q, hq⟩ : ∃ q, q = decide (∃ h : i < (xs.map Yv.wy).length, yLt (xs.map Yv.wy)[i] yw = true) := ⟨_, rfl⟩
            go_upto_region 12 with fail
            go_cut [84] (fun s84 wx => s84 = .bool q ∧ Hid (∃ d, wx = wi.drewN d))
            case first =>
              by_cases hik : i < k
              · have hix : i < xs.length := by rw [hxl.out]; exact hik
                have hq2 : q = yLt xs[i].wy yw := by
                  rw [hq]
                  have hlm : i < (xs.map Yv.wy).length := by rw [List.length_map]; exact hix
                  by_cases h : yLt xs[i].wy yw = true
                  · rw [h]; exact decide_eq_true ⟨hlm, by simpa using h⟩
                  · rw [Bool.not_eq_true] at h
                    rw [h]
                    exact decide_eq_false (fun ⟨_, h2⟩ => by rw [List.getElem_map, h] at h2; cases h2)
                obtain ⟨go, rfl, hgo1, hgo2⟩ := hown1.out.blockI' (by omega)
                obtain ⟨c0, c1⟩ := hown1.out.getY i hix
                have hTx := hty1.out xs[i] (List.getElem_mem hix)
                generalize xs[i] = x at c0 c1 hTx hq2
                have C0 := cu_drewN (n := d) c0
                have C1 := cu_drewN (n := d) c1
                have ZG := cell_lt C0
                have ZT := cell_lt T0
                simp only at ZG ZT
                have iik : (0 : Int) ≤ (i : Int) ∧ (i : Int) < (k : Int) := by omega
                obtain ⟨z, hz⟩ : ∃ z, z = cmpL x.p yp := ⟨_, rfl⟩
                have hcmp := hide (fun (dd : Nat) => (show Calls Try.prog 156 #[.slice x.a x.n x.c, .slice ap (ll + 1) cp] (wi.drewN (d + dd)) (fun e w'' => e = .returned (.int .i64 z) ∧ ∃ n, w'' = wi.drewN (d + n)) from (compare_any x.a ap x.n (ll + 1) x.c cp x.p yp (wi.drewN (d + dd)) (wi.drewN (d + dd)).heap.size (wi.drewN (d + dd)).heap.size hTx.1.len hyl.out (hTx.1.drewN (d + dd)).row (hPy.out.drewN (d + dd)).row (Nat.le_trans hTx.1.cap hTx.1.max) (by omega) z hz).mono (fun e w'' h => by
                  obtain ⟨h1, kk, h2⟩ := h
                  exact ⟨h1, dd + kk, by rw [h2]; simp [Nat.add_assoc]⟩)))
                have hq3 : q = (decide (x.k < su) || (decide (x.k = su) && decide (z < 0))) := by rw [hq2, ← hyw2.out, hz]; rfl
                replace hz := hide hz
                have zg := cell_lt c0
                have zt := cell_lt t0
                simp only at zg zt
                clear hTx hq hq2
                by_cases h1 : x.k < su
                · have hqt : q = true := by rw [hq3]; simp [h1]
                  have h2 : (x.k < su) = True := by simp [h1]
                  clear hq3 h1
                  subst hqt
                  (refine wp_region_quiet_hid (by kernel_rfl) (by kernel_rfl) (fun wq hst hni => ?_); (repeat (refine hst.out _ _ _ _ (fun K hK => ?_); go_simp; first | (refine hK.out _ ?_; clear hK K) | (apply Exists.intro; refine ⟨fun _ => ?_, hK.out _ ?_⟩; (go_at_call 156; exact hcmp.out _); clear hK K))); refine hni.out _ _ ?_; clear hst hni wq; intro wqq hw'; obtain ⟨nq, hw''⟩ := hw'; subst hw'')
                  go_wp2_with fail
                  go_meet
                  case rel => exact ⟨rfl, hide ⟨d + nq, by simp⟩⟩
                · have h2 : (x.k < su) = False := by simp [h1]
                  by_cases h3 : x.k = su
                  · have h4 : (x.k == su) = true := by simp [h3]
                    have hqt : q = decide (z < 0) := by rw [hq3]; simp [h1, h3]
                    clear hq3 h1
                    replace h3 := hide h3
                    replace hqt := hide hqt
                    (refine wp_region_quiet_hid (by kernel_rfl) (by kernel_rfl) (fun wq hst hni => ?_); (repeat (refine hst.out _ _ _ _ (fun K hK => ?_); go_simp; first | (refine hK.out _ ?_; clear hK K) | (apply Exists.intro; refine ⟨fun _ => ?_, hK.out _ ?_⟩; (go_at_call 156; exact hcmp.out _); clear hK K))); refine hni.out _ _ ?_; clear hst hni wq; intro wqq hw'; obtain ⟨nq, hw''⟩ := hw'; subst hw'')
                    go_wp2_with fail
                    go_meet
                    case rel => exact ⟨by rw [hqt.out], hide ⟨d + nq, by simp⟩⟩
                  · have h4 : (x.k == su) = false := by simp [h3]
                    have hqt : q = false := by rw [hq3]; simp [h1, h3]
                    clear hq3 h1 h3
                    subst hqt
                    (refine wp_region_quiet_hid (by kernel_rfl) (by kernel_rfl) (fun wq hst hni => ?_); (repeat (refine hst.out _ _ _ _ (fun K hK => ?_); go_simp; first | (refine hK.out _ ?_; clear hK K) | (apply Exists.intro; refine ⟨fun _ => ?_, hK.out _ ?_⟩; (go_at_call 156; exact hcmp.out _); clear hK K))); refine hni.out _ _ ?_; clear hst hni wq; intro wqq hw'; obtain ⟨nq, hw''⟩ := hw'; subst hw'')
                    go_wp2_with fail
                    go_meet
                    case rel => exact ⟨rfl, hide ⟨d + nq, by simp⟩⟩
              · have hqf : q = false := by
                  rw [hq, decide_eq_false_iff_not]
                  rintro ⟨h, _⟩
                  rw [List.length_map, hxl.out] at h
                  exact hik h
                have iik : ((i : Int) < (k : Int)) = False := by simp; omega
                subst hqf
                replace hq := hide hq
                (refine wp_region_quiet_hid (by kernel_rfl) (by kernel_rfl) (fun wq hst hni => ?_); (repeat (refine hst.out _ _ _ _ (fun K hK => ?_); go_simp; first | (refine hK.out _ ?_; clear hK K) | (apply Exists.intro; refine ⟨fun _ => ?_, hK.out _ ?_⟩; (fail); clear hK K))); refine hni.out _ _ ?_; clear hst hni wq; intro wqq hw'; obtain ⟨nq, hw''⟩ := hw'; subst hw'')
                go_wp2_with fail
                go_meet
                case rel => exact ⟨rfl, hide ⟨d + nq, by simp⟩⟩
            case rest =>
              obtain ⟨rfl, hwd2⟩ := hcut
              obtain ⟨d2, rfl⟩ := hwd2.out
              cases q with
              | true =>
                obtain ⟨hil, hlt3⟩ := of_decide_eq_true hq.symm
                have hpos2 := hide (show posY yw ((xs.map Yv.wy).drop (i + 1)) + (i + 1) = posY yw (xs.map Yv.wy) by rw [← hpos.out, posY_go hil hlt3]; omega)
                have hik : i < k := by rw [List.length_map, hxl.out] at hil; exact hil
                replace hq := hide hq
                go_wp2
                go_roundg (gk - 1)
                case measure => omega
                case rel => exact ⟨i + 1, by omega, by omega, by go_num, hpos2, ⟨d2, rfl⟩⟩
              | false =>
                have hpi := hide (show i = posY yw (xs.map Yv.wy) from by
                  rw [← hpos.out]
                  by_cases hil : i < (xs.map Yv.wy).length
                  · have : yLt (xs.map Yv.wy)[i] yw = false := by
                      cases h : yLt (xs.map Yv.wy)[i] yw with
                      | false => rfl
                      | true => exact absurd ⟨hil, h⟩ (of_decide_eq_false hq.symm)
                    rw [posY_stop hil this, Nat.zero_add]
                  · rw [List.drop_of_length_le (by omega)]
                    simp [posY])
                replace hq := hide hq
                have hownv := hide (hown1.out.drewN d2)
                have htyv := hide (fun x hx => (hty1.out x hx).stays (up_drewN (n := d2) (Below.refl wi.heap.size wi)))
                have hTyv := hide (hTy.out.stays (up_drewN (n := d2) (Below.refl wi.heap.size wi)))
                have T02 := cu_drewN (n := d2) t0
                have T12 := cu_drewN (n := d2) t1
                have hbv := hide (show Below W2.heap.size W2 (wi.drewN d2) from up_drewN hbW.out)
                have hzv : wi.heap.size ≤ (wi.drewN d2).heap.size := (up_drewN (n := d2) (Below.refl wi.heap.size wi)).size
                clear hwd2 hwd hpos T0 T1
                generalize wi.drewN d2 = wv at hownv htyv hTyv T02 T12 hbv hzv ⊢
                have tzv := cell_lt T02
                simp only at tzv
                have hMv := hbv.out.size
                obtain ⟨wW, hwW⟩ : ∃ wW, wW = wv.alloc (.cells #[.slice ap (ll + 1) cp, .int .i64 su] 36) := ⟨_, rfl⟩
                have hbvW : Below wv.heap.size wv wW := by rw [hwW]; exact up_alloc (Below.refl _ _) (Nat.le_refl _)
                have hownW := hide (hownv.out.stays hbvW)
                have htyW := hide (fun x hx => (htyv.out x hx).stays hbvW)
                have hTyW := hide (hTyv.out.stays hbvW)
                have hbW2 := hide (hbv.out.trans (hbvW.mono hMv))
                have hzW : wv.heap.size < wW.heap.size := by rw [hwW]; simp
                have hIns := hide (insY_any W2.heap.size k co i wv.heap.size ao xs ⟨ap, ll + 1, cp, su, yp⟩ 36 wW hownW.out (by omega) (by omega) hi (by rw [hwW]; show (wv.heap.push _)[wv.heap.size]? = _; simp) (.inr (fun e => by have := (hownv.out.block_lt _ e).2; omega)))
                replace hbvW := hide hbvW
                clear hownv htyv hTyv
                go_wp2_with fail
                simp only [← hwW]
                replace hwW := hide hwW
                refine hIns.out.mono ?_
                rintro e w8 ⟨g8, c8, rfl, own8, hK8⟩
                have hb8 := hide (hbW2.out.trans (hK8.toBelow (fun z hz => (hownW.out.block_lt z hz).1) (by omega)))
                have hne8 := way_ne hownW.out
                have hty8 := hide (show ∀ x ∈ xs.take i ++ ⟨ap, ll + 1, cp, su, yp⟩ :: xs.drop i, TY w8 x from fun x hx => by
                  rcases List.mem_append.1 hx with hx | hx
                  · exact (htyW.out x (List.mem_of_mem_take hx)).keep hK8 hne8
                  · rcases List.mem_cons.1 hx with rfl | hx
                    · exact hTyW.out.keep hK8 hne8
                    · exact (htyW.out x (List.mem_of_mem_drop hx)).keep hK8 hne8)
                have hm8 := hide (show (xs.take i ++ ⟨ap, ll + 1, cp, su, yp⟩ :: xs.drop i).map Yv.wy = insAll es s (rows.take (k + 1)) from by
                  rw [hins.out, ← hxm.out, insY_at, ← hpi.out, List.map_append, List.map_cons, List.map_take, List.map_drop, ← hyw2.out]
                  rfl)
                have hl8 := hide (show (xs.take i ++ ⟨ap, ll + 1, cp, su, yp⟩ :: xs.drop i).length = k + 1 from by
                  have := hxl.out
                  rw [List.length_append, List.length_cons, List.length_take, List.length_drop]
                  omega)
                replace own8 := hide own8
                clear hK8 hIns hne8
                go_wp2_with fail
                go_roundw
                case rel => exact ⟨k + 1, _, c8, _, by go_num, rfl, by omega, hl8, hm8, own8, hty8, hb8⟩
                case measure => simp [intOf]; omega
    · obtain rfl : L = k := by omega
      obtain ⟨W3, rfl⟩ : ∃ W3 : World, W3 = wq := ⟨_, rfl⟩
      have hm3 := hide (show xs.map Yv.wy = insAll es s rows by rw [hxm.out, List.take_of_length_le (by rw [hL.out]; exact Nat.le_refl _)])
      have hrow3 := hide (own_rowW hown.out)
      clear q0 q1 hrows
      go_wp2_with fail
      go_loopw [14, 95] (fun s14 s95 wr => ∃ (k2 q : Nat) (ao2 : Option Addr) (co2 : Nat) (ys : List Yv), s95 = .int .i64 k2 ∧ s14 = .slice ao2 q co2 ∧ k2 ≤ L ∧ q ≤ k2 ∧ Hid (ys.length = q) ∧ Hid (ys.map Yv.wy = ((xs.map Yv.wy).take k2).foldl stepY []) ∧ Hid (Own encY 2 36 wr W3.heap.size (.slice ao2 q co2) ys) ∧ Hid (∀ x ∈ ys, TY wr x) ∧ Hid (Below W3.heap.size W3 wr)) (fun _ s95 _ => L - (intOf s95).toNat)
      case atStart => exact ⟨0, 0, none, 0, [], rfl, rfl, by omega, by omega, hide rfl, hide rfl, hide (Own.nil _ _), hide (fun x hx => by cases hx), hide (Below.refl _ _)⟩
      case round =>
        obtain ⟨k2, q, ao2, co2, ys, rfl, rfl, hk2, hq2, hyl, hym, hoy, hyt, hb3⟩ := hrel
        have hz3 := hb3.out.size
        have hwk2 : IntKind.i64.wrap ((k2 : Int) + 1) = (k2 : Int) + 1 := by rw [IntKind.wrap_i64]; omega
        by_cases hlt2 : k2 < L
        · have hkx : k2 < xs.length := by rw [hxl.out]; exact hlt2
          obtain ⟨b1, o1, rfl, hb1, c0, c1⟩ := hrow3.out.wayY k2 hkx
          have c0 := cu_below hb3.out c0 hb1
          have c1 := cu_below hb3.out c1 hb1
          have hb1r : b1 < wr.heap.size := by omega
          have hTx := (hty.out xs[k2] (List.getElem_mem hkx)).stays hb3.out
          have hst := hide (show ((xs.map Yv.wy).take (k2 + 1)).foldl stepY [] = stepY (((xs.map Yv.wy).take k2).foldl stepY []) xs[k2].wy from by
            rw [List.take_succ_eq_append_getElem (by rw [List.length_map]; exact hkx), List.foldl_append]
            simp)
          generalize xs[k2] = x at c0 c1 hTx hst
          rw [← hym.out] at hst
          obtain ⟨wA, hwA⟩ : ∃ wA, wA = wr.alloc (.cells #[.slice x.a x.n x.c, .int .i64 x.k] 36) := ⟨_, rfl⟩
          have hbA : Below wr.heap.size wr wA := by rw [hwA]; exact up_alloc (Below.refl _ _) (Nat.le_refl _)
          have t0 : wA.cell? ⟨wr.heap.size, 0, none⟩ = some (.slice x.a x.n x.c) := by rw [hwA]; simp [go_sem]
          have t1 : wA.cell? ⟨wr.heap.size, 1, none⟩ = some (.int .i64 x.k) := by rw [hwA]; simp [go_sem]
          have hoA := hide (hoy.out.stays hbA)
          have hytA := hide (fun y hy => (hyt.out y hy).stays hbA)
          have hTA := hide (hTx.stays hbA)
          have hb3A := hide (hb3.out.trans (hbA.mono hz3))
          obtain ⟨tt, htt⟩ : ∃ tt, tt = ys.any (fun y => decide (y.p = x.p)) := ⟨_, rfl⟩
          have hHas := hide (hasB_any x wr.heap.size ao2 co2 q ys wA wA.heap.size (Nat.le_refl _) hyl.out (own_rowW hoA.out) (fun y hy => (hytA.out y hy).1) hTA.out.1 t0 (by omega) tt htt)
          have hany := hide (show (ys.map Yv.wy).any (fun z => decide (z.p = x.wy.p)) = tt from by rw [List.any_map, htt]; rfl)
          have hzA := cell_lt t0
          simp only at hzA
          have ikL : (0 : Int) ≤ (k2 : Int) ∧ (k2 : Int) < (L : Int) := by omega
          replace htt := hide htt
          replace hbA := hide hbA
          clear hTx
          go_wp2_with fail
          simp only [← hwA]
          replace hwA := hide hwA
          refine hHas.out.mono ?_
          rintro e w9 ⟨rfl, hb9⟩
          have ho9 := hide (hoA.out.stays hb9)
          have hy9 := hide (fun y hy => (hytA.out y hy).stays hb9)
          have hT9 := hide (hTA.out.stays hb9)
          have hb39 := hide (hb3A.out.trans (hb9.mono (by omega)))
          have t09 := cu_below hb9 t0 hzA
          have t19 := cu_below hb9 t1 hzA
          have hz9 := cell_lt t09
          simp only at hz9
          clear hb9 hHas t0 t1 hoA hytA hTA hb3A
          cases tt with
          | true =>
            have hst2 := hst.out
            rw [stepY, if_pos hany.out] at hst2
            replace hst2 := hide hst2
            go_wp2
            go_roundw
            case rel => exact ⟨k2 + 1, q, ao2, co2, ys, by go_num, rfl, by omega, by omega, hyl, hide hst2.out.symm, ho9, hy9, hb39⟩
            case measure => simp [intOf]; omega
          | false =>
            have hst2 := hst.out
            rw [stepY, if_neg (by rw [hany.out]; simp)] at hst2
            replace hst2 := hide hst2
            have hM9 := hb39.out.size
            obtain ⟨xa, xn, xc, xk, xp⟩ := x
            go_wp2_with (at_builtin; (refine wpList_pushL (e := 36) (enc := encY) (xs := ys) (v := .slice ao2 (q) co2) (base := W3.heap.size) rfl (.tmp 103) (.tmp 105) 117 rfl _ 32 Try.underlying117 info_way rfl ?d17 lenY oneY (q) ?d27 ?d37 ?d47 ⟨w9.heap.size, 0, none⟩ 1 ⟨xa, xn, xc, xk, xp⟩ ?d57 ?d67 ?d77 ?d87 ?d97 ?_); (case d17 => omega); (case d27 => exact hyl.out); (case d37 => rfl); (case d47 => exact (ho9.out.alloc _)); (case d57 => rfl); (case d67 => exact newY _ _ _ _ rfl); (case d77 => omega); (case d87 => unfold maxLen; omega); (case d97 => first | omega | (simp; done) | (simp; omega)); intro g7 c7 w7 own7 hb7 hgr7 hat7 hgl7)
            have hK7 : Keep (fun z => (Value.slice ao2 q co2).ownBlock = some z) w9 w7 := ((Keep.refl _ w9).alloc _).grown hgr7 (fun z hz => .inl hz)
            have hne9 := way_ne ho9.out
            have hy7 := hide (show ∀ y ∈ ys ++ [⟨xa, xn, xc, xk, xp⟩], TY w7 y from fun y hy => by
              rcases List.mem_append.1 hy with hy | hy
              · exact (hy9.out y hy).keep hK7 hne9
              · rw [List.mem_singleton.1 hy]; exact hT9.out.keep hK7 hne9)
            have hb37 := hide (hb39.out.trans (hK7.toBelow (fun z hz => (ho9.out.block_lt z hz).1) hM9))
            have hl7 := hide (show (ys ++ [(⟨xa, xn, xc, xk, xp⟩ : Yv)]).length = q + 1 by rw [List.length_append, hyl.out]; rfl)
            have hm7 := hide (show (ys ++ [(⟨xa, xn, xc, xk, xp⟩ : Yv)]).map Yv.wy = ((xs.map Yv.wy).take (k2 + 1)).foldl stepY [] by rw [hst2.out, List.map_append]; rfl)
            replace own7 := hide own7
            clear hK7 hne9 hgr7 hb7
            go_wp2_with fail
            go_roundw
            case rel => exact ⟨k2 + 1, q + 1, _, _, _, by go_num, rfl, by omega, by omega, hl7, hm7, own7, hy7, hb37⟩
            case measure => simp [intOf]; omega
        · obtain rfl : L = k2 := by omega
          have hfin := hide (show BBack es s t w (.returned (.slice ao2 q co2)) wr from by
            have hcp := hoy.out.row lenY
            obtain ⟨a', c', hv, hr, hc1, hc2⟩ := hcp
            injection hv with e1 e2 e3
            subst e1 e3
            refine ⟨ao2, co2, ys, by rw [hyl.out], ?_, hr, fun y hy => (hyt.out y hy).1, by rw [hyl.out]; omega, hc1, by unfold maxLen at hc2; exact hc2, hbw.out.trans (hb3.out.mono (by omega))⟩
            rw [hym.out, hbest.out, List.take_of_length_le (by rw [List.length_map, hxl.out]; exact Nat.le_refl _), hm3.out])
          go_wp2
          go_ret
          exact hfin.out
end Go.Proofs.Ytcehdpeeaogpiaa
