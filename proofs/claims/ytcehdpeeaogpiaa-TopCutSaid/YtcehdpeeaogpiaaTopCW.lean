/-
  What felltop.TopCut leans on: the table of widths, ways that are there, a net that grows. Conditions: the slices read.
-/
import Derived.Test.YtcehdpeeaogpiaaTopCP
import Derived.Test.YtcehdpeeaogpiaaDelC
import Derived.Test.YtcehdpeeaogpiaaFTab
import Derived.Test.YtcehdpeeaogpiaaFlowM
import Derived.Test.YtcehdpeeaogpiaaBegun
import Derived.Test.YtcehdpeeaogpiaaWayOk
namespace Go.Proofs.Ytcehdpeeaogpiaa
open Go.RowKit
set_option linter.unusedSimpArgs false
set_option linter.unusedVariables false
theorem edsErr_mk {N : Int} : ∀ (es : List Ed), (∀ e ∈ es, 0 ≤ e.u ∧ e.u < N ∧ 0 ≤ e.v ∧ e.v < N ∧ -10000 ≤ e.c ∧ e.c ≤ 10000) → edsErr N es = 0
  | [], _ => rfl
  | e :: r, h => by
    have h1 := h e (List.mem_cons_self ..)
    have h2 : edErr N e = 0 := by
      unfold edErr
      rw [if_neg (by omega), if_neg (by omega)]
    rw [edsErr, if_neg (by simp [h2])]
    exact edsErr_mk r (fun x hx => h x (List.mem_cons_of_mem _ hx))
theorem lowCost_mk : ∀ (es : List Ed), (∀ e ∈ es, 1 ≤ e.c) → lowCost es = false
  | [], _ => rfl
  | e :: r, h => by
    have h1 := h e (List.mem_cons_self ..)
    rw [lowCost, if_neg (by omega)]
    exact lowCost_mk r (fun x hx => h x (List.mem_cons_of_mem _ hx))
theorem look_mk {n s t : Nat} {es : List Ed} (h1 : 1 ≤ n) (h2 : n ≤ 64) (hl : es.length ≤ 600) (hR : Right n es) (hp : ∀ e ∈ es, 1 ≤ e.c) (hs : s < n) (ht : t < n) : lookErr (n : Int) es [(s : Int), (t : Int)] = 0 := by
  have e1 : netErr (n : Int) es = 0 := by
    unfold netErr
    rw [if_neg (by omega), if_neg (by omega)]
    exact edsErr_mk es hR
  have e2 : posErr (n : Int) es = 0 := by
    unfold posErr
    rw [if_neg (by simp [e1]), lowCost_mk es hp]
    rfl
  unfold lookErr
  rw [if_neg (by simp [e2])]
  unfold plErr
  rw [if_neg (by omega)]
  unfold plErr
  rw [if_neg (by omega)]
  rfl
theorem net_mk {n : Nat} {es : List Ed} (h1 : 1 ≤ n) (h2 : n ≤ 64) (hl : es.length ≤ 600) (hR : Right n es) : netErr (n : Int) es = 0 := by
  unfold netErr
  rw [if_neg (by omega), if_neg (by omega)]
  exact edsErr_mk es hR
theorem right_sub {n : Nat} {es xs : List Ed} (hR : Right n es) (hs : ∀ e ∈ xs, e ∈ es) : Right n xs := fun e he => hR e (hs e he)
theorem wideE_take {w : Int} {es : List Ed} {j : Nat} (h : j < es.length) : wideE w (es.take (j + 1)) = if w ≤ es[j].c then wideE w (es.take j) ++ [es[j]] else wideE w (es.take j) := by
  unfold wideE
  rw [List.take_succ_eq_append_getElem h, List.filter_append]
  by_cases hc : w ≤ es[j].c
  · rw [if_pos hc]; simp [hc]
  · rw [if_neg hc]; simp [hc]
theorem notC_wider (w : Int) (es : List Ed) : notC w (wideE w es) = widerE w es := rfl
theorem row_off {w : World} {B : Nat} {a : Option Addr} {xs : List Ed} {n c : Nat} (h : Row encE 3 w B a xs) (p : Addr) (v : Value) (hp : ∀ b, (Value.slice a n c).ownBlock = some b → b ≠ p.block) : Row encE 3 (w.setCell p v) B a xs := by
  intro i hi
  obtain ⟨b, o, rfl, h2, h3⟩ := h i hi
  refine ⟨b, o, rfl, h2, fun j u hj => ?_⟩
  have hb : b ≠ p.block := hp b (by simp [Value.ownBlock])
  exact cu_set (h3 j u hj) (fun e => hb e.symm)
/-- there is a way: no error -/
theorem way_yes (n s t m : Nat) (a : Option Addr) (cap : Nat) (es : List Ed) (w : World) (B : Nat) (hB : B ≤ w.heap.size) (hE : Row encE 3 w B a es) (hm : es.length = m) (h0 : lookErr (n : Int) es [(s : Int), (t : Int)] = 0) (hF : distF n es s t < FAR) :
    Calls Try.prog 18 #[.agg #[.int .i64 (n : Int), .slice a m cap], .int .i64 (s : Int), .int .i64 (t : Int)] w fun e w' => ∃ av k c cost, e = .returned (.tuple #[.agg #[.slice av k c, .int .i64 cost], .int .i64 0]) ∧ Below w.heap.size w w' := by
  subst hm
  obtain ⟨g1, g2⟩ := look_ok h0
  obtain ⟨g3, g4⟩ := posErr_ok g1
  obtain ⟨n1, n2, n3, n4⟩ := netErr_ok g3
  have hs : s < n := by have := g2 (s : Int) (by simp); omega
  have ht : t < n := by have := g2 (t : Int) (by simp); omega
  have hpe := pos_edges (n := n) n4 g4
  obtain ⟨hsf, hsp⟩ := spread_feas hpe hs
  have hle : ∀ u, distF n es s u ≤ FAR := fun u => Int.le_trans ((spread_att (nes es) (stF s) (stF_far s) (n - 1)) u).1 (stF_far s u)
  obtain ⟨K, hK0, hK1, hK2, hK3⟩ := back_ends hpe hs ht hF
  exact (way_ok n a cap es s t w B hB hE h0 K hK0 hK1 hK2 hK3 (fun u hu => ⟨hsp u hu, hle u⟩)).mono fun e w' ⟨av, c, h1, _, h3⟩ => ⟨av, _, c, _, h1, h3⟩
/-- the table of widths -/
theorem fwide_tab (n : Nat) (an : Option Addr) (cap : Nat) (es : List Ed) (w : World) (B : Nat) (hB : B ≤ w.heap.size) (hE : Row encE 3 w B an es) (hl : es.length ≤ 9223372036854775807) (h0 : netErr (n : Int) es = 0) :
    Calls Try.prog 15 #[.agg #[.int .i64 (n : Int), .slice an es.length cap]] w fun e w' => ∃ g, e = .returned (.tuple #[.slice (some ⟨g, 0, none⟩) n n, .int .i64 0]) ∧ Below w.heap.size w w' ∧ ∀ a b, a < n → b < n → ∃ ga ca, w'.cell? ⟨g, a, none⟩ = some (.slice (some ⟨ga, 0, none⟩) n ca) ∧ ga < w'.heap.size ∧ w'.cell? ⟨ga, b, none⟩ = some (.int .i64 (wide n (nes es) a b)) := by
  refine (fwide_ok n an cap es w B hB hE hl h0).mono fun e w' ⟨g, h1, h2, h3⟩ => ⟨g, h1, h3, ?_⟩
  intro a b ha hb
  obtain ⟨av, cv, hc, ho, _⟩ := h2.at a (by rw [mxp_len]; exact ha)
  rw [mxp_get _ _ _ _ ha, rw_len] at hc
  rw [mxp_get _ _ _ _ ha, rw_len] at ho
  obtain ⟨ga, rfl, _, hga⟩ := ho.blockI (by omega)
  refine ⟨ga, cv, hc, hga, ?_⟩
  have := ho.getI b (by rw [rw_len]; exact hb)
  rw [rw_get] at this
  exact this
theorem fwide_err (N : Int) (an : Option Addr) (cap : Nat) (es : List Ed) (w : World) (B : Nat) (hB : B ≤ w.heap.size) (hE : Row encE 3 w B an es) (hl : es.length ≤ 9223372036854775807) :
    Calls Try.prog 15 #[.agg #[.int .i64 N, .slice an es.length cap]] w fun e w' => ∃ v f, e = .returned (.tuple #[v, .int .i64 f]) ∧ Below w.heap.size w w' := by
  by_cases h0 : netErr N es = 0
  · obtain ⟨n1, n2, n3, n4⟩ := netErr_ok h0
    obtain ⟨n, rfl⟩ := Int.eq_ofNat_of_zero_le (show 0 ≤ N by omega)
    exact (fwide_tab n an cap es w B hB hE hl h0).mono fun e w' ⟨g, h1, h2, _⟩ => ⟨_, _, h1, h2⟩
  · exact (fwide_bad N an cap es w B hB hE hl h0).mono fun e w' ⟨h1, h2⟩ => ⟨_, _, h1, h2⟩
/-- a net that grows in block p: w2 the world at the start -/
structure GnC (eo : TypeId) (p : Nat) (n : Int) (w2 : World) (v : Value) (xs : List Ed) (wr : World) : Prop where
  c0 : wr.cell? ⟨p, 0, none⟩ = some (.int .i64 n)
  c1 : wr.cell? ⟨p, 1, none⟩ = some v
  f0 : ∀ o, wr.frozen? ⟨p, o, none⟩ = false
  o1 : Own encE 3 eo wr w2.heap.size v xs
  kp : Keep (fun j => j = p) w2 wr
  lp : p < w2.heap.size
section
variable {eo : TypeId} {p : Nat} {n : Int} {w2 wr w' : World} {v v' : Value} {xs : List Ed}
theorem GnC.stays (h : GnC eo p n w2 v xs wr) (b : Below wr.heap.size wr w') : GnC eo p n w2 v xs w' :=
  have a1 := cell_lt h.c0
  ⟨cu_below b h.c0 a1, cu_below b h.c1 a1, fun o => fu_below b (h.f0 o) a1, h.o1.stays b, h.kp.trans (Keep.new b), h.lp⟩
theorem GnC.grew (h : GnC eo p n w2 v xs wr) {ys : List Ed} {wo : World} (hwo : Keep (fun j => v.ownBlock = some j) wr wo) (own : Own encE 3 eo w' w2.heap.size v' ys) (hg : wo.grownBy w' v.ownBlock) : GnC eo p n w2 v' ys (w'.setCell ⟨p, 1, none⟩ v') := by
  have hk : Keep (fun j => v.ownBlock = some j) wr w' := hwo.grown hg (fun k hk => .inl hk)
  have b1 := h.o1.block_lt
  have a1 := h.lp
  have n1 : v.ownBlock ≠ some p := fun e => by have := (b1 p e).1; omega
  have z1 : p < wr.heap.size := cell_lt h.c0
  have c1' := hk.cu h.c1 n1
  refine ⟨cu_set_off (hk.cu h.c0 n1) (by omega), World.cell?_setCell_same _ _ _ c1', fun o => fu_set ((hk.frozen z1 n1).trans (h.f0 o)), own.elsewhere (fun e => by have := (own.block_lt _ e).1; simp at this; omega) _, ?_, a1⟩
  have h2 : Keep (fun j => j = p) w2 w' := by
    refine h.kp.trans2 hk ?_
    exact fun j e => by have := (b1 j e).1; omega
  exact h2.setCell (.inl rfl) _
end
end Go.Proofs.Ytcehdpeeaogpiaa
