/-
  What twin.carry does: one more is carried over what is free, if it can be. Conditions: a right net, bounds.
-/
import Derived.Test.YtcehdpeeaogpiaaTwA
import Derived.Test.YtcehdpeeaogpiaaQuietH
import Derived.Test.YtcehdpeeaogpiaaAnyBad
import Derived.Test.YtcehdpeeaogpiaaRegInw
import Derived.Deep.LoopGhost
import Derived.Deep.DeepCutAuto
import Derived.BigRegion
namespace Go.Proofs.Ytcehdpeeaogpiaa
open Go.RowKit
set_option linter.unusedSimpArgs false
set_option linter.unusedVariables false
/-- what carry hands back: f, t the ends, U what is used -/
def CarryAns (es : List Ed) (n f t gu cu base : Nat) (π : Nat → Int) (U : Nat → Bool) (w : World) (e : Ending) (w' : World) : Prop :=
  ∃ (s : TS) (U' : Nat → Bool) (ok : Bool), e = .returned (.bool ok) ∧ Keep (fun k => k = gu) w w' ∧ Own encB 1 4 w' base (.slice (some ⟨gu, 0, none⟩) es.length cu) (RW es.length U') ∧
    TI (arcN es U) es.length n π f s ∧ (∀ j, j < es.length → ¬ Gives (arcN es U) s.d j) ∧
    (ok = false → s.d t = FAR ∧ U' = U) ∧ (ok = true → s.d t < FAR ∧ ∃ l, PCh (arcN es U) es.length s.p f t l ∧ U' = flipL U l)
theorem acN_used {es : List Ed} {n : Nat} (hes : Right n es) {U : Nat → Bool} {i : Nat} (hi : i < es.length) : (U i = true → acN es U i = ⟨(edN es i).v, (edN es i).u, - (edN es i).c, (i : Int)⟩) ∧ (U i = false → acN es U i = ⟨(edN es i).u, (edN es i).v, (edN es i).c, (i : Int)⟩) := by
  have hr := hes (edN es i) (edN_mem hi)
  unfold acN arcN eu ev ec
  constructor
  · intro h
    rw [if_pos h]
    simp
    omega
  · intro h
    rw [if_neg (by simp [h])]
    simp
    omega
theorem arc_low {es : List Ed} {n : Nat} (hes : Right n es) (U : Nat → Bool) : ∀ k, k < es.length → -10000 ≤ (arcN es U k).c := by
  intro k hk
  have := hes (edN es k) (edN_mem hk)
  unfold arcN ec
  split <;> simp only <;> omega
theorem tstep_at {A : Nat → NE} {r : TS} {k u v : Nat} {c : Int} (h : (⟨u, v, c⟩ : NE) = A k) : (r.d u < FAR → r.d u + c < r.d v → tstep A r k = ⟨upz r.d v (r.d u + c), upz r.p v (k : Int), true⟩) ∧ (¬ (r.d u < FAR ∧ r.d u + c < r.d v) → tstep A r k = r) := by
  unfold tstep
  constructor
  · intro h1 h2
    have hg : Gives A r.d k := by unfold Gives; rw [← h]; exact ⟨h1, h2⟩
    rw [if_pos hg, ← h]
  · intro h1
    have hg : ¬ Gives A r.d k := by unfold Gives; rw [← h]; exact h1
    rw [if_neg hg]
theorem pch_next {A : Nat → NE} {M : Nat} {p : Nat → Int} {f v : Nat} {l : List Nat} (h : PCh A M p f v l) (hv : v ≠ f) : ∃ k l3, l = k :: l3 ∧ k < M ∧ p v = (k : Int) ∧ (A k).v = v ∧ PCh A M p f (A k).u l3 := by
  cases h with
  | top => exact absurd rfl hv
  | @step _ k l h1 h2 h3 h4 h5 => exact ⟨k, l, rfl, h2, h3, h4, h5⟩
theorem pch_lt {A : Nat → NE} {M : Nat} {p : Nat → Int} {f v : Nat} {l : List Nat} (h : PCh A M p f v l) : ∀ k ∈ l, k < M := by
  induction h with
  | top => intro k hk; cases hk
  | step _ h2 _ _ _ ih =>
    intro j hj
    rcases List.mem_cons.1 hj with rfl | hj
    · exact h2
    · exact ih j hj
/-- what holds while carry runs, behind its arcs -/
structure CX (es : List Ed) (U : Nat → Bool) (n gu cu base gd gp : Nat) (av : Option Addr) (cv : Nat) (d p : Nat → Int) (V : Nat → Bool) (w wr : World) : Prop where
  arcs : Own encA 4 238 wr w.heap.size (.slice av es.length cv) ((List.range es.length).map (acN es U))
  dist : Own encI 1 3 wr w.heap.size (.slice (some ⟨gd, 0, none⟩) n n) (LI n d)
  pred : Own encI 1 3 wr w.heap.size (.slice (some ⟨gp, 0, none⟩) n n) (LI n p)
  used : Own encB 1 4 wr base (.slice (some ⟨gu, 0, none⟩) es.length cu) (RW es.length V)
  keep : Keep (fun k => k = gu) w wr
  ne : gd ≠ gp
  lt : gu < w.heap.size
  a1 : (Value.slice av es.length cv).ownBlock ≠ some gd
  a2 : (Value.slice av es.length cv).ownBlock ≠ some gp
namespace CX
section
variable {es : List Ed} {U : Nat → Bool} {n gu cu base gd gp : Nat} {av : Option Addr} {cv : Nat} {d p : Nat → Int} {V : Nat → Bool} {w wr : World}
theorem alloc (h : CX es U n gu cu base gd gp av cv d p V w wr) (o : Obj) : CX es U n gu cu base gd gp av cv d p V w (wr.alloc o) := ⟨h.arcs.alloc o, h.dist.alloc o, h.pred.alloc o, h.used.alloc o, h.keep.alloc o, h.ne, h.lt, h.a1, h.a2⟩
theorem drew (h : CX es U n gu cu base gd gp av cv d p V w wr) : CX es U n gu cu base gd gp av cv d p V w wr.drew := ⟨h.arcs.drew, h.dist.drew, h.pred.drew, h.used.drew, h.keep.drew, h.ne, h.lt, h.a1, h.a2⟩
theorem drewN (h : CX es U n gu cu base gd gp av cv d p V w wr) (m : Nat) : CX es U n gu cu base gd gp av cv d p V w (wr.drewN m) := ⟨h.arcs.drewN m, h.dist.drewN m, h.pred.drewN m, h.used.drewN m, h.keep.drewN m, h.ne, h.lt, h.a1, h.a2⟩
theorem low (h : CX es U n gu cu base gd gp av cv d p V w wr) : w.heap.size ≤ gd ∧ w.heap.size ≤ gp ∧ gd < wr.heap.size ∧ gp < wr.heap.size ∧ gu < wr.heap.size := ⟨h.dist.at_base.1, h.pred.at_base.1, h.dist.at_base.2, h.pred.at_base.2, h.used.at_base.2⟩
theorem facts (h : CX es U n gu cu base gd gp av cv d p V w wr) : (∀ j, wr.frozen? ⟨gd, j, none⟩ = false) ∧ (∀ j, wr.frozen? ⟨gp, j, none⟩ = false) ∧ (∀ j, wr.frozen? ⟨gu, j, none⟩ = false) := ⟨h.dist.free, h.pred.free, h.used.free⟩
theorem setD (h : CX es U n gu cu base gd gp av cv d p V w wr) (i : Nat) (hi : i < n) (x : Int) : CX es U n gu cu base gd gp av cv (upz d i x) p V w (wr.setCell ⟨gd, i, none⟩ (.int .i64 x)) := by
  have hl := h.low
  have h2 := h.lt
  refine ⟨h.arcs.elsewhere h.a1 _, h.dist.setI i hi x, h.pred.elsewhere (by simp [Value.ownBlock]; exact fun e => h.ne e.symm) _, h.used.elsewhere (by simp [Value.ownBlock]; omega) _, h.keep.setCell (.inr hl.1) _, h.ne, h.lt, h.a1, h.a2⟩
theorem setP (h : CX es U n gu cu base gd gp av cv d p V w wr) (i : Nat) (hi : i < n) (x : Int) : CX es U n gu cu base gd gp av cv d (upz p i x) V w (wr.setCell ⟨gp, i, none⟩ (.int .i64 x)) := by
  have hl := h.low
  have h2 := h.lt
  refine ⟨h.arcs.elsewhere h.a2 _, h.dist.elsewhere (by simp [Value.ownBlock]; exact h.ne) _, h.pred.setI i hi x, h.used.elsewhere (by simp [Value.ownBlock]; omega) _, h.keep.setCell (.inr hl.2.1) _, h.ne, h.lt, h.a1, h.a2⟩
theorem setU (h : CX es U n gu cu base gd gp av cv d p V w wr) (i : Nat) (hi : i < es.length) (x : Bool) : CX es U n gu cu base gd gp av cv d p (upz V i x) w (wr.setCell ⟨gu, i, none⟩ (.bool x)) := by
  have hl := h.low
  have h2 := h.lt
  refine ⟨h.arcs.elsewhere (fun e => ?_) _, h.dist.elsewhere (by simp [Value.ownBlock]; omega) _, h.pred.elsewhere (by simp [Value.ownBlock]; omega) _, ?_, h.keep.setCell (.inl rfl) _, h.ne, h.lt, h.a1, h.a2⟩
  · have := (h.arcs.block_lt _ e).1
    simp only at this
    omega
  · have := h.used.putB i (by rw [rw_len]; exact hi) x
    rwa [rw_set] at this
theorem atU (h : CX es U n gu cu base gd gp av cv d p V w wr) (i : Nat) (hi : i < es.length) : wr.cell? ⟨gu, i, none⟩ = some (.bool (V i)) := by
  have := h.used.getB i (by rw [rw_len]; exact hi)
  rwa [rw_get] at this
theorem congr (h : CX es U n gu cu base gd gp av cv d p V w wr) {d' p' : Nat → Int} (hd : ∀ v, v < n → d v = d' v) (hp : ∀ v, v < n → p v = p' v) : CX es U n gu cu base gd gp av cv d' p' V w wr :=
  ⟨h.arcs, by rw [← li_congr hd]; exact h.dist, by rw [← li_congr hp]; exact h.pred, h.used, h.keep, h.ne, h.lt, h.a1, h.a2⟩
/-- arc number i in memory -/
theorem arc (h : CX es U n gu cu base gd gp av cv d p V w wr) (i : Nat) (hi : i < es.length) : ∃ g, av = some ⟨g, 0, none⟩ ∧ w.heap.size ≤ g ∧ g < wr.heap.size ∧ wr.cell? ⟨g, i * 4, none⟩ = some (.int .i64 (((arcN es U i).u : Nat) : Int)) ∧ wr.cell? ⟨g, i * 4 + 1, none⟩ = some (.int .i64 (((arcN es U i).v : Nat) : Int)) ∧ wr.cell? ⟨g, i * 4 + 2, none⟩ = some (.int .i64 (arcN es U i).c) ∧ wr.cell? ⟨g, i * 4 + 3, none⟩ = some (.int .i64 (i : Int)) := by
  have hlen : ((List.range es.length).map (acN es U)).length = es.length := by simp
  rcases h.arcs.form with ⟨h1, h2⟩ | ⟨g, cap, h1, h2, h3, _⟩
  · rw [h2] at hlen; simp at hlen; omega
  · simp only [Value.slice.injEq] at h1
    obtain ⟨rfl, _, rfl⟩ := h1
    have := h.arcs.getA i (by rw [hlen]; exact hi)
    simp only [List.getElem_map, List.getElem_range] at this
    exact ⟨g, rfl, h2, h3, this.1, this.2.1, this.2.2.1, this.2.2.2⟩
end
end CX
/-- what each operation that makes the rows leaves -/
def FCt (w0 : World) (n bw : Nat) : Nat → (Nat → Value) → (Nat → Nat) → (Nat → Nat) → World → Prop
  | 0, X, _, _, _ => X 0 = .pointer (some ⟨bw, 0, none⟩)
  | 1, X, _, _, _ => X 1 = .int .i64 (n : Int)
  | 2, X, L, H, w => X 2 = .slice (some ⟨L 2, 0, none⟩) n n ∧ L 2 < H 2 ∧ Own encI 1 3 w w0.heap.size (.slice (some ⟨L 2, 0, none⟩) n n) (LI n (fun _ => 0))
  | 3, X, _, _, _ => X 3 = .pointer (some ⟨bw, 0, none⟩)
  | 4, X, _, _, _ => X 4 = .int .i64 (n : Int)
  | 5, X, L, H, w => X 5 = .slice (some ⟨L 5, 0, none⟩) n n ∧ L 5 < H 5 ∧ Own encI 1 3 w w0.heap.size (.slice (some ⟨L 5, 0, none⟩) n n) (LI n (fun _ => 0))
  | 6, X, _, _, _ => X 6 = X 2
  | _, _, _, _, _ => True
theorem fct_stays {w0 : World} {n bw : Nat} : ∀ (i : Nat) (X : Nat → Value) (L H : Nat → Nat) (w w' : World), FCt w0 n bw i X L H w → Below w.heap.size w w' → FCt w0 n bw i X L H w'
  | 0, _, _, _, _, _, h, _ => h
  | 1, _, _, _, _, _, h, _ => h
  | 2, _, _, _, _, _, ⟨h1, h2, h3⟩, hb => ⟨h1, h2, h3.stays hb⟩
  | 3, _, _, _, _, _, h, _ => h
  | 4, _, _, _, _, _, h, _ => h
  | 5, _, _, _, _, _, ⟨h1, h2, h3⟩, hb => ⟨h1, h2, h3.stays hb⟩
  | 6, _, _, _, _, _, h, _ => h
  | _ + 7, _, _, _, _, _, _, _ => trivial
theorem fct_loc {w0 : World} {n bw : Nat} : ∀ (i : Nat) (X : Nat → Value) (L H : Nat → Nat) (X' : Nat → Value) (L' H' : Nat → Nat) (w : World), (X i = X' i ∧ L i = L' i ∧ H i = H' i) → (i = 6 → X 2 = X' 2) → FCt w0 n bw i X L H w → FCt w0 n bw i X' L' H' w
  | 0, _, _, _, _, _, _, _, ⟨a, b, c⟩, _, h => by simp only [FCt] at h ⊢; rw [← a]; exact h
  | 1, _, _, _, _, _, _, _, ⟨a, b, c⟩, _, h => by simp only [FCt] at h ⊢; rw [← a]; exact h
  | 2, _, _, _, _, _, _, _, ⟨a, b, c⟩, _, h => by simp only [FCt] at h ⊢; rw [← a, ← b, ← c]; exact h
  | 3, _, _, _, _, _, _, _, ⟨a, b, c⟩, _, h => by simp only [FCt] at h ⊢; rw [← a]; exact h
  | 4, _, _, _, _, _, _, _, ⟨a, b, c⟩, _, h => by simp only [FCt] at h ⊢; rw [← a]; exact h
  | 5, _, _, _, _, _, _, _, ⟨a, b, c⟩, _, h => by simp only [FCt] at h ⊢; rw [← a, ← b, ← c]; exact h
  | 6, _, _, _, _, _, _, _, ⟨a, b, c⟩, k, h => by simp only [FCt] at h ⊢; rw [← a, ← k rfl]; exact h
  | _ + 7, _, _, _, _, _, _, _, _, _, _ => trivial
def MidT (w0 : World) (n : Nat) (s12 s13 : Value) (wx : World) : Prop := ∃ gd gp, s12 = .slice (some ⟨gd, 0, none⟩) n n ∧ s13 = .slice (some ⟨gp, 0, none⟩) n n ∧ gd ≠ gp ∧ Own encI 1 3 wx w0.heap.size (.slice (some ⟨gd, 0, none⟩) n n) (LI n (fun _ => 0)) ∧ Own encI 1 3 wx w0.heap.size (.slice (some ⟨gp, 0, none⟩) n n) (LI n (fun _ => 0)) ∧ Below w0.heap.size w0 wx
set_option maxRecDepth 100000 in
set_option maxHeartbeats 4000000 in
theorem carry_any (n : Nat) (a : Option Addr) (cap : Nat) (es : List Ed) (gu cu base : Nat) (U : Nat → Bool) (π : Nat → Int) (f t : Nat) (w : World) (B : Nat) (hB : B ≤ w.heap.size) (hE : Row encE 3 w B a es) (hn1 : 1 ≤ n) (hn : n ≤ 64) (hl : es.length ≤ 600) (hes : Right n es) (hf : f < n) (ht : t < n) (own : Own encB 1 4 w base (.slice (some ⟨gu, 0, none⟩) es.length cu) (RW es.length U)) (hgu : B ≤ gu)
    (ho : Opt es π U) (hπ : ∀ v, 0 ≤ π v) (hπf : π f = 0) :
    Calls Try.prog 159 #[.agg #[.int .i64 (n : Int), .slice a es.length cap], .slice (some ⟨gu, 0, none⟩) es.length cu, .int .i64 (f : Int), .int .i64 (t : Int)] w (CarryAns es n f t gu cu base π U w) := by
  have hmk := fun w => run_zeros w n (by omega)
  have hgl := own.at_base
  have hub := hide (fun (k : Nat) (hk : k < es.length) => (show w.cell? ⟨gu, k, none⟩ = some (.bool (U k)) from by
    have := own.getB k (by rw [rw_len]; exact hk)
    rwa [rw_get] at this))
  have hac := hide (fun (i : Nat) (hi : i < es.length) => acN_used hes (U := U) hi)
  replace hE := hide hE
  replace hes := hide hes
  replace own := hide own
  replace ho := hide ho
  replace hπ := hide hπ
  replace hπf := hide hπf
  go_enter Try.func159, Try.ntmps159
  go_wp2_with fail
  go_loopw [9, 23] (fun s9 s23 wr => ∃ (k : Nat) (av : Option Addr) (cv : Nat), s23 = .int .i64 k ∧ k ≤ es.length ∧ s9 = .slice av k cv ∧ Hid (Own encA 4 238 wr (w.heap.size + 1) (.slice av k cv) ((List.range k).map (acN es U))) ∧ Hid (Below w.heap.size w wr) ∧ wr.cell? ⟨w.heap.size, 0, none⟩ = some (.int .i64 n)) (fun _ s23 _ => es.length - (intOf s23).toNat)
  case atStart => exact ⟨0, none, 0, rfl, Nat.zero_le _, rfl, hide (Own.nil _ _), hide (by repeat (first | with_reducible exact Below.refl _ _ | with_reducible assumption | with_reducible refine up_drewN ?_ | with_reducible refine up_drew ?_ | (with_reducible refine up_alloc ?_ ?_; rotate_left; (first | omega | (simp <;> omega) | simp)) | (with_reducible refine up_set ?_ ?_; rotate_left; (first | omega | (simp <;> omega) | simp)) | (with_reducible refine Below.trans ?_ (Below.mono (by with_reducible assumption) ?_); rotate_left; (first | omega | (simp <;> omega) | simp)))), by simp [go_sem]⟩
  case round =>
    obtain ⟨k, av, cv, rfl, hk, rfl, hown, hb, x0⟩ := hrel
    have hz := hb.out.size
    have xz := cell_lt x0
    simp only at xz
    by_cases hlt : k < es.length
    · obtain ⟨b, o, rfl, hbB, d0, d1, d2⟩ := (hE.out.below hb.out hB).ed k hlt
      have hex : es[k] = edN es k := by unfold edN; rw [List.getD, List.getElem?_eq_getElem hlt]; rfl
      rw [hex] at d0 d1 d2
      have hrr := hes.out (edN es k) (edN_mem hlt)
      have hack := hac.out k hlt
      obtain ⟨xe, hxe⟩ : ∃ xe, xe = edN es k := ⟨_, rfl⟩
      rw [← hxe] at d0 d1 d2 hrr hack
      have hbr : b < wr.heap.size := by omega
      have hgr : gu < wr.heap.size := by omega
      have cu0 := cu_below hb.out (hub.out k hlt) hgl.2
      have hlen := hide (show ((List.range k).map (acN es U)).length = k by simp)
      have hnx := hide (show (List.range (k + 1)).map (acN es U) = (List.range k).map (acN es U) ++ [acN es U k] by rw [List.range_succ, List.map_append]; rfl)
      have hwk : IntKind.i64.wrap ((k : Int) + 1) = (k : Int) + 1 := by rw [IntKind.wrap_i64]; omega
      have ik : (0 : Int) ≤ (k : Int) ∧ (k : Int) < (es.length : Int) := by omega
      have hwn : IntKind.i64.wrap (- xe.c) = - xe.c := by rw [IntKind.wrap_i64]; omega
      replace hxe := hide hxe
      clear hex
      cases hU : U k with
      | true =>
        rw [hU] at cu0
        have hak := hack.1 hU
        rw [hak] at hnx
        replace hU := hide hU
        clear hack hak
        go_wp2_with (at_builtin; (refine wpList_push (e := 238) (enc := encA) (xs := ((List.range k).map (acN es U))) (v := .slice av (k) cv) (base := w.heap.size + 1) rfl (.tmp 32) (.tmp 42) 236 rfl _ 32 Try.underlying236 info_arc rfl ?d11 lenA oneA (k) ?d21 ?d31 ?d41 ⟨wr.heap.size + 1, 0, none⟩ 1 ⟨xe.v, xe.u, - xe.c, (k : Int)⟩ ?d51 ?d61 ?d71 ?d81 ?d91 ?_); (case d11 => omega); (case d21 => exact hlen.out); (case d31 => rfl); (case d41 => exact ((hown.out.alloc _).alloc _)); (case d51 => rfl); (case d61 => exact newA _ _ _ _ (by simp)); (case d71 => omega); (case d81 => unfold maxLen; omega); (case d91 => first | omega | (simp; done) | (simp; omega)); intro g1 c1 w1 own1 hb1 hgr1 hg1 hgl1; have hB1 := hide (unalloc (unalloc hb1 (by simp; omega)) (by omega)); replace own1 := hide own1; clear hgr1 hb1)
        go_roundw
        case rel => exact ⟨k + 1, _, _, by go_num, by omega, rfl, hide (by rw [hnx.out]; exact own1.out), hide (hb.out.trans (hB1.out.mono (by omega))), cu_below hB1.out x0 (by simp)⟩
        case measure => simp [intOf]; omega
      | false =>
        rw [hU] at cu0
        have hak := hack.2 hU
        rw [hak] at hnx
        replace hU := hide hU
        clear hack hak
        go_wp2_with (at_builtin; (refine wpList_push (e := 238) (enc := encA) (xs := ((List.range k).map (acN es U))) (v := .slice av (k) cv) (base := w.heap.size + 1) rfl (.tmp 44) (.tmp 53) 236 rfl _ 32 Try.underlying236 info_arc rfl ?d11 lenA oneA (k) ?d21 ?d31 ?d41 ⟨wr.heap.size + 1, 0, none⟩ 1 ⟨xe.u, xe.v, xe.c, (k : Int)⟩ ?d51 ?d61 ?d71 ?d81 ?d91 ?_); (case d11 => omega); (case d21 => exact hlen.out); (case d31 => rfl); (case d41 => exact ((hown.out.alloc _).alloc _)); (case d51 => rfl); (case d61 => exact newA _ _ _ _ (by simp)); (case d71 => omega); (case d81 => unfold maxLen; omega); (case d91 => first | omega | (simp; done) | (simp; omega)); intro g1 c1 w1 own1 hb1 hgr1 hg1 hgl1; have hB1 := hide (unalloc (unalloc hb1 (by simp; omega)) (by omega)); replace own1 := hide own1; clear hgr1 hb1)
        go_roundw
        case rel => exact ⟨k + 1, _, _, by go_num, by omega, rfl, hide (by rw [hnx.out]; exact own1.out), hide (hb.out.trans (hB1.out.mono (by omega))), cu_below hB1.out x0 (by simp)⟩
        case measure => simp [intOf]; omega
    · obtain rfl : k = es.length := by omega
      obtain ⟨w0, rfl⟩ : ∃ w0 : World, w0 = wr := ⟨_, rfl⟩
      clear hlt hk
      have hup := hide (hb.out)
      have key0 := hide (show ∀ w', Below w0.heap.size w0 w' → (Below w0.heap.size w0 w' ∧ w'.cell? ⟨w.heap.size, 0, none⟩ = some (.int .i64 (n : Int)) ∧ w0.heap.size ≤ w'.heap.size) from fun w' hb => ⟨hb, cu_below hb x0 xz, hb.size⟩)
      replace x0 := hide x0
      go_upto_region 9 with fail
      go_cut [12, 13] (fun s12 s13 wx => MidT w0 n s12 s13 wx)
      case first =>
        refine wp_region_inw 7 (by kernel_rfl) [some 56, some 57, some 58, some 59, some 60, some 61, some 12] (FCt w0 n w.heap.size) (fun w' => Below w0.heap.size w0 w' ∧ w'.cell? ⟨w.heap.size, 0, none⟩ = some (.int .i64 (n : Int)) ∧ w0.heap.size ≤ w'.heap.size) (fun w w' => Below w.heap.size w w') (by kernel_rfl) (by kernel_rfl) (by kernel_rfl) (by kernel_rfl) (fct_stays) (fun i X L H X' L' H' w h hf => fct_loc i X L H X' L' H' w (h i (.inl rfl)) (fun e => by subst e; exact (h 2 (.inr (by kernel_rfl))).1) hf) (fun _ _ h => h.size) (key0.out _ (below_drew _)) ?steps ?hend
        case steps =>
          refine ⟨?_, ?_, ?_, ?_, ?_, ?_, ?_, trivial⟩
          · intro X L H wI hS hd hp K hK
            have hS0 := hide hS
            (try dsimp only at hS)
            simp only [putAll, Act.put, List.setIfInBounds_toArray, List.set_cons_zero, List.set_cons_succ]
            go_simp
            refine hK _ _ wI.heap.size wI.heap.size _ ?_ (Nat.le_refl _) (Nat.le_refl _) (Nat.le_refl _) (Below.refl _ _) hS0.out rfl
            simp only [putAll, Act.put, List.setIfInBounds_toArray, List.set_cons_zero, List.set_cons_succ]
          · intro X L H wI hS hd hp K hK
            have h0 : X 0 = _ := (hd 0 (by kernel_rfl)).1
            have hS0 := hide hS
            (try dsimp only at hS)
            simp only [putAll, Act.put, List.setIfInBounds_toArray, List.set_cons_zero, List.set_cons_succ]
            go_simp
            refine hK _ _ wI.heap.size wI.heap.size _ ?_ (Nat.le_refl _) (Nat.le_refl _) (Nat.le_refl _) (Below.refl _ _) hS0.out rfl
            simp only [putAll, Act.put, List.setIfInBounds_toArray, List.set_cons_zero, List.set_cons_succ, h0]
          · intro X L H wI hS hd hp K hK
            (try have h1 : X 1 = _ := (hd 1 (by kernel_rfl)).1)
            have hS0 := hide hS
            (try dsimp only at hS)
            simp only [putAll, Act.put, List.setIfInBounds_toArray, List.set_cons_zero, List.set_cons_succ]
            (go_simp; exact hK _ (.slice (some ⟨wI.heap.size, 0, none⟩) n n) wI.heap.size (wI.heap.size + 1) _ (by simp only [putAll, Act.put, List.setIfInBounds_toArray, List.set_cons_zero, List.set_cons_succ, h1]) (Nat.le_refl _) (by omega) (by simp) ((Below.refl _ _).alloc (Nat.le_refl _) _) (key0.out _ (hS0.out.1.alloc hS0.out.2.2 _)) ⟨rfl, by simp [updN], own_zeros _ _ _ hS0.out.2.2 (by omega)⟩)
          · intro X L H wI hS hd hp K hK
            have hS0 := hide hS
            (try dsimp only at hS)
            simp only [putAll, Act.put, List.setIfInBounds_toArray, List.set_cons_zero, List.set_cons_succ]
            go_simp
            refine hK _ _ wI.heap.size wI.heap.size _ ?_ (Nat.le_refl _) (Nat.le_refl _) (Nat.le_refl _) (Below.refl _ _) hS0.out rfl
            simp only [putAll, Act.put, List.setIfInBounds_toArray, List.set_cons_zero, List.set_cons_succ]
          · intro X L H wI hS hd hp K hK
            have h3 : X 3 = _ := (hd 3 (by kernel_rfl)).1
            have hS0 := hide hS
            (try dsimp only at hS)
            simp only [putAll, Act.put, List.setIfInBounds_toArray, List.set_cons_zero, List.set_cons_succ]
            go_simp
            refine hK _ _ wI.heap.size wI.heap.size _ ?_ (Nat.le_refl _) (Nat.le_refl _) (Nat.le_refl _) (Below.refl _ _) hS0.out rfl
            simp only [putAll, Act.put, List.setIfInBounds_toArray, List.set_cons_zero, List.set_cons_succ, h3]
          · intro X L H wI hS hd hp K hK
            (try have h4 : X 4 = _ := (hd 4 (by kernel_rfl)).1)
            have hS0 := hide hS
            (try dsimp only at hS)
            simp only [putAll, Act.put, List.setIfInBounds_toArray, List.set_cons_zero, List.set_cons_succ]
            (go_simp; exact hK _ (.slice (some ⟨wI.heap.size, 0, none⟩) n n) wI.heap.size (wI.heap.size + 1) _ (by simp only [putAll, Act.put, List.setIfInBounds_toArray, List.set_cons_zero, List.set_cons_succ, h4]) (Nat.le_refl _) (by omega) (by simp) ((Below.refl _ _).alloc (Nat.le_refl _) _) (key0.out _ (hS0.out.1.alloc hS0.out.2.2 _)) ⟨rfl, by simp [updN], own_zeros _ _ _ hS0.out.2.2 (by omega)⟩)
          · intro X L H wI hS hd hp K hK
            (try have h2 : X 2 = _ := (hd 2 (by kernel_rfl)).1)
            have hS0 := hide hS
            (try dsimp only at hS)
            simp only [putAll, Act.put, List.setIfInBounds_toArray, List.set_cons_zero, List.set_cons_succ]
            (obtain ⟨g2, -, -⟩ := (hd 2 (by kernel_rfl)).1; go_simp; exact hK _ (X 2) wI.heap.size wI.heap.size _ (by simp only [putAll, Act.put, List.setIfInBounds_toArray, List.set_cons_zero, List.set_cons_succ, g2]) (Nat.le_refl _) (Nat.le_refl _) (Nat.le_refl _) (Below.refl _ _) hS0.out (by simp [FCt, updX]))
        case hend =>
          intro X L H wI hS hF hP
          (obtain ⟨f2, l2, o2⟩ := (hF 2 (by omega)).1; obtain ⟨f5, l5, o5⟩ := (hF 5 (by omega)).1; have f6 : X 6 = _ := (hF 6 (by omega)).1; rw [f2] at f6; have z2 := (hF 2 (by omega)).2; have z5 := (hF 5 (by omega)).2; have p2_5 := hP 2 5 (by omega) (by omega) (by omega); have hS' := hide hS; clear hS hF hP; replace o2 := hide o2; replace o5 := hide o5)
          simp only [putAll, Act.put, List.setIfInBounds_toArray, List.set_cons_zero, List.set_cons_succ, f2, f5, f6]
          change wpAny _ _ _ _ (0 + 1) _ _ _
          refine wpAny_ready (rs := [7]) (by kernel_rfl) (by simp) (AllReady.cons rfl (fun K hK => ?_) AllReady.nil)
          go_simp
          refine hK _ _ ?_
          clear hK K
          refine wpAny_done (by kernel_rfl) ?_ _
          go_wp2_with fail
          go_meet
          case rel => exact ⟨L 2, L 5, rfl, rfl, by omega, o2.out, o5.out, hS'.out.1⟩
      case rest =>
        clear hmk key0 x0
        obtain ⟨gd, gp, rfl, rfl, hne, od, op, hb9⟩ := hcut
        have hbw := hide (hup.out.trans (hb9.mono hup.out.size))
        have hav : ∀ g, (Value.slice av es.length cv).ownBlock = some g → g < w0.heap.size := fun g hg => (hown.out.block_lt g hg).2
        have hX0 : Hid (CX es U n gu cu base gd gp av cv (fun _ => 0) (fun _ => 0) U w wc) := hide ⟨(hown.out.stays hb9).base_le (by omega), od.base_le hup.out.size, op.base_le hup.out.size, own.out.stays hbw.out, Keep.new hbw.out, hne, hgl.2, fun e => by have := hav _ e; have := od.at_base; omega, fun e => by have := hav _ e; have := op.at_base; omega⟩
        have hne' : gp ≠ gd := fun e => hne e.symm
        clear hav hown hb hz od op hb9 hup hub hac hbw
        go_wp2_with fail
        go_loopw [14, 64] (fun _ i wr => ∃ (k : Nat), k ≤ n ∧ i = .int .i64 k ∧ Hid (CX es U n gu cu base gd gp av cv (first k (fun _ => FAR) (fun _ => 0)) (first k (fun _ => -1) (fun _ => 0)) U w wr)) (fun _ i _ => n - (intOf i).toNat)
        case atStart => exact ⟨0, Nat.zero_le _, rfl, by rw [first_zero, first_zero]; exact hX0⟩
        case round =>
          obtain ⟨k, hk, rfl, hX⟩ := hrel
          clear hX0
          obtain ⟨z1, z2, z3, z4, z5⟩ := hX.out.low
          obtain ⟨fd, fp, fu⟩ := hX.out.facts
          by_cases hlt : k < n
          · have c0 := hX.out.dist.atI k hlt
            have c1 := hX.out.pred.atI k hlt
            have hX1 := (hX.out.setD k hlt FAR).setP k hlt (-1)
            rw [first_step k (fun _ => FAR) (fun _ => 0), first_step k (fun _ => -1) (fun _ => 0)] at hX1
            replace hX1 := hide hX1
            go_wp2
            go_roundw
            case rel => exact ⟨k + 1, by omega, by go_num, hX1⟩
            case measure => simp [intOf]; omega
          · obtain rfl : n = k := by omega
            have hX1 := hX.out.congr (d' := fun _ => FAR) (p' := fun _ => -1) (fun v hv => by simp [first, hv]) (fun v hv => by simp [first, hv])
            have c0 := hX1.dist.atI f hf
            have hX2 := hide (hX1.setD f hf 0)
            have i1 : (0 : Int) ≤ (f : Int) ∧ (f : Int) < (n : Int) := by omega
            have i2 : (0 : Int) ≤ (t : Int) ∧ (t : Int) < (n : Int) := by omega
            clear hX1
            go_wp2_with fail
            obtain ⟨wa, hwa⟩ : ∃ wa, wa = wr.setCell ⟨gd, f, none⟩ (.int .i64 0) := ⟨_, rfl⟩
            rw [← hwa] at hX2
            simp only [← hwa]
            replace hwa := hide hwa
            obtain ⟨s0, hs0⟩ : ∃ s0 : TS, s0 = ⟨upz (fun _ => FAR) f 0, fun _ => -1, true⟩ := ⟨_, rfl⟩
            have hX3 : Hid (CX es U n gu cu base gd gp av cv s0.d s0.p U w wa) := by rw [hs0]; exact hX2
            have hT0 : Hid (TI (arcN es U) es.length n π f s0) := by rw [hs0]; exact hide (ti_start hf _ _)
            have hm0 : Hid (s0.m = true) := by rw [hs0]; exact hide rfl
            have hq0 : Hid (s0.m = false → ∀ j, j < es.length → ¬ Gives (arcN es U) s0.d j) := hide (fun h => by rw [hm0.out] at h; cases h)
            obtain ⟨N, hN⟩ : ∃ N : Nat, N = (isum n s0.d + 1).toNat := ⟨_, rfl⟩
            have hg0 : Hid (isum n s0.d + (if s0.m = true then 1 else 0) ≤ (N : Int)) := hide (by rw [hN, if_pos hm0.out]; omega)
            replace hN := hide hN
            replace hs0 := hide hs0
            have hnn := hide (fun (r : TS) (h : TI (arcN es U) es.length n π f r) => isum_nn (n := n) (fun i _ => ti_nn h hπ.out hπf.out i))
            clear hX hX2 c0 hk hlt fd fp fu z1 z2 z3 z4 z5 hwa
            go_loopg [15] N (fun gk s15 wr => ∃ s : TS, s15 = .bool s.m ∧ Hid (CX es U n gu cu base gd gp av cv s.d s.p U w wr) ∧ Hid (TI (arcN es U) es.length n π f s) ∧ Hid (s.m = false → ∀ j, j < es.length → ¬ Gives (arcN es U) s.d j) ∧ Hid (isum n s.d + (if s.m = true then 1 else 0) ≤ (gk : Int)))
            case atStart => exact ⟨s0, by rw [hm0.out], hX3, hT0, hq0, hg0⟩
            case round =>
              clear hX3 hT0 hq0 hg0 hm0 hs0 hN
              obtain ⟨s, rfl, hX, hT, hQ, hG⟩ := hrel
              cases hm : s.m with
              | true =>
                obtain ⟨sa, hsa⟩ : ∃ sa : TS, sa = ⟨s.d, s.p, false⟩ := ⟨_, rfl⟩
                have hXa : Hid (CX es U n gu cu base gd gp av cv sa.d sa.p U w wr) := by rw [hsa]; exact hX
                have hTa : Hid (TI (arcN es U) es.length n π f sa) := by rw [hsa]; exact hide ⟨hT.out.f0, hT.out.far, hT.out.low, hT.out.up, hT.out.prd, hT.out.chn⟩
                have hsm : Hid (sa.m = false) := by rw [hsa]; exact hide rfl
                have hsd : Hid (sa.d = s.d) := by rw [hsa]; exact hide rfl
                have hgk := hnn.out s hT.out
                have hG1 := hG.out
                rw [if_pos hm] at hG1
                have hgk1 : 1 ≤ gk := by omega
                rw [← hsd.out] at hG1
                replace hG1 := hide hG1
                replace hm := hide hm
                replace hsa := hide hsa
                clear hgk hX hT hQ hG
                obtain ⟨wo, rfl⟩ : ∃ wo : World, wo = wr := ⟨_, rfl⟩
                go_wp2_with fail
                go_loopw [15, 16, 80] (fun s15 _ i wr => ∃ (k : Nat) (r : TS), k ≤ es.length ∧ i = .int .i64 k ∧ s15 = .bool r.m ∧ Hid (r = tfold (arcN es U) sa k) ∧ Hid (CX es U n gu cu base gd gp av cv r.d r.p U w wr)) (fun _ _ i _ => es.length - (intOf i).toNat)
                case atStart => exact ⟨0, sa, Nat.zero_le _, rfl, by rw [hsm.out], hide rfl, hXa⟩
                case round =>
                  obtain ⟨k, r, hk, rfl, rfl, hr, hX⟩ := hrel
                  clear hXa
                  obtain ⟨z1, z2, z3, z4, z5⟩ := hX.out.low
                  obtain ⟨fd, fp, fu⟩ := hX.out.facts
                  by_cases hlt : k < es.length
                  · have hTr : TI (arcN es U) es.length n π f r := by rw [hr.out]; exact ti_fold (fun j hj => ho.out j hj) (arc_ok hes.out U) hTa.out k hk
                    obtain ⟨ga, rfl, ga1, ga2, a0, a1, a2, a3⟩ := hX.out.arc k hlt
                    obtain ⟨⟨u, v, c⟩, hA⟩ : ∃ x, x = arcN es U k := ⟨_, rfl⟩
                    have hak := arc_ok hes.out U k hlt
                    have hal := arc_low hes.out U k hlt
                    rw [← hA] at a0 a1 a2 hak hal
                    simp only at a0 a1 a2 hak hal
                    have d0 := hX.out.dist.atI u hak.1
                    have d1 := hX.out.dist.atI v hak.2.1
                    have p1 := hX.out.pred.atI v hak.2.1
                    have hst : tfold (arcN es U) sa (k + 1) = tstep (arcN es U) r k := by rw [hr.out]; rfl
                    obtain ⟨hs1, hs2⟩ := tstep_at (r := r) hA
                    rw [← hst] at hs1 hs2
                    have b1 := hTr.far u
                    have b2 := ti_nn hTr hπ.out hπf.out u
                    have b3 := hTr.far v
                    have b4 := ti_nn hTr hπ.out hπf.out v
                    obtain ⟨du, hdu⟩ : ∃ x, x = r.d u := ⟨_, rfl⟩
                    obtain ⟨dv, hdv⟩ : ∃ x, x = r.d v := ⟨_, rfl⟩
                    rw [← hdu] at d0 b1 b2 hs1 hs2
                    rw [← hdv] at d1 b3 b4 hs1 hs2
                    unfold FAR at b1 b3 hs1 hs2
                    have iu : (0 : Int) ≤ (u : Int) ∧ (u : Int) < (n : Int) := by omega
                    have iv : (0 : Int) ≤ (v : Int) ∧ (v : Int) < (n : Int) := by omega
                    have ik : (0 : Int) ≤ (k : Int) ∧ (k : Int) < (es.length : Int) := by omega
                    have hwr : IntKind.i64.wrap (du + c) = du + c := by rw [IntKind.wrap_i64]; omega
                    have hX1 := hide (hX.out.alloc (.cells #[.int .i64 (u : Int), .int .i64 (v : Int), .int .i64 c, .int .i64 (k : Int)] 238))
                    replace hs1 := hide hs1
                    replace hs2 := hide hs2
                    clear hst
                    replace hA := hide hA
                    replace hdu := hide hdu
                    replace hdv := hide hdv
                    clear hTr
                    go_upto_region 22 with fail
                    obtain ⟨be, hbe⟩ : ∃ be, be = wr.heap.size := ⟨_, rfl⟩
                    obtain ⟨w4, h4⟩ : ∃ w4, w4 = wr.alloc (.cells #[.int .i64 (u : Int), .int .i64 (v : Int), .int .i64 c, .int .i64 (k : Int)] 238) := ⟨_, rfl⟩
                    have e0 : w4.cell? ⟨be, 0, none⟩ = some (.int .i64 (u : Int)) := by rw [h4, hbe]; simp [go_sem]
                    have e1 : w4.cell? ⟨be, 1, none⟩ = some (.int .i64 (v : Int)) := by rw [h4, hbe]; simp [go_sem]
                    have e2 : w4.cell? ⟨be, 2, none⟩ = some (.int .i64 c) := by rw [h4, hbe]; simp [go_sem]
                    rw [← h4] at hX1
                    simp only [← h4]
                    simp only [← hbe]
                    have hge : gd < be ∧ gp < be ∧ be < w4.heap.size := by rw [h4]; simp; omega
                    replace h4 := hide h4
                    replace hbe := hide hbe
                    have d0 := hX1.out.dist.atI u hak.1
                    have d1 := hX1.out.dist.atI v hak.2.1
                    have p1 := hX1.out.pred.atI v hak.2.1
                    rw [← hdu.out] at d0
                    rw [← hdv.out] at d1
                    obtain ⟨fd, fp, -⟩ := hX1.out.facts
                    clear hX a0 a1 a2 a3 ga1 ga2 fu
                    obtain ⟨pv, hpv⟩ : ∃ pv, pv = r.p v := ⟨_, rfl⟩
                    rw [← hpv] at p1
                    replace hpv := hide hpv
                    by_cases hA1 : du < 1099511627776
                    · by_cases hA2 : du + c < dv
                      · have hst2 := hide (show (⟨upz r.d v (du + c), upz r.p v (k : Int), true⟩ : TS) = tfold (arcN es U) sa (k + 1) from (hs1.out hA1 hA2).symm)
                        clear hs1 hs2
                        go_quiet (fail)
                        have hX2 := hide (hX1.out.drewN nq)
                        have d1 : (w4.drewN nq).cell? ⟨gd, v, none⟩ = some (.int .i64 dv) := cu_drewN d1
                        have d0 : (w4.drewN nq).cell? ⟨gd, u, none⟩ = some (.int .i64 du) := cu_drewN d0
                        have p1 : (w4.drewN nq).cell? ⟨gp, v, none⟩ = some (.int .i64 pv) := cu_drewN p1
                        have e0 : (w4.drewN nq).cell? ⟨be, 0, none⟩ = some (.int .i64 (u : Int)) := cu_drewN e0
                        have e1 : (w4.drewN nq).cell? ⟨be, 1, none⟩ = some (.int .i64 (v : Int)) := cu_drewN e1
                        have e2 : (w4.drewN nq).cell? ⟨be, 2, none⟩ = some (.int .i64 c) := cu_drewN e2
                        obtain ⟨fd, fp, -⟩ := hX2.out.facts
                        have hge : gd < be ∧ gp < be ∧ be < (w4.drewN nq).heap.size := hge
                        clear hX1
                        generalize w4.drewN nq = w5 at hX2 d1 d0 p1 e0 e1 e2 fd fp hge ⊢
                        go_wp2
                        go_region
                        go_wp2
                        go_roundw
                        case rel => exact ⟨k + 1, ⟨upz r.d v (du + c), upz r.p v (k : Int), true⟩, by omega, by go_num, rfl, hst2, hide (by repeat (first | with_reducible exact hX2.out | with_reducible refine CX.drew ?_ | with_reducible refine CX.drewN ?_ _ | with_reducible refine CX.alloc ?_ _ | with_reducible refine CX.setP ?_ v hak.2.1 _ | with_reducible refine CX.setD ?_ v hak.2.1 _))⟩
                        case measure => simp [intOf]; omega
                      · have hst2 := hide (show r = tfold (arcN es U) sa (k + 1) from (hs2.out (fun h => hA2 h.2)).symm)
                        clear hs1 hs2
                        have hA2' : decide (du + c < dv) = false := by simpa using hA2
                        go_quiet (fail)
                        have hX2 := hide (hX1.out.drewN nq)
                        go_wp2
                        go_roundw
                        case rel => exact ⟨k + 1, r, by omega, by go_num, rfl, hst2, hX2⟩
                        case measure => simp [intOf]; omega
                    · have hst2 := hide (show r = tfold (arcN es U) sa (k + 1) from (hs2.out (fun h => hA1 h.1)).symm)
                      have hA1' : decide (du < 1099511627776) = false := by simpa using hA1
                      have hA1'' : (du < 1099511627776) = False := eq_false hA1
                      clear hs1 hs2
                      (refine wp_region_quiet_hid (by kernel_rfl) (by kernel_rfl) (fun wq hst hni => ?_); (repeat (refine hst.out _ _ _ _ (fun K hK => ?_); go_simp; first | (refine hK.out _ ?_; clear hK K) | (apply Exists.intro; refine ⟨fun _ => ?_, hK.out _ ?_⟩; (fail); clear hK K))); refine hni.out _ _ ?_; clear hst hni wq; intro wqq hw'; obtain ⟨nq, hw''⟩ := hw'; subst hw'')
                      have hX2 := hide (hX1.out.drewN nq)
                      go_wp2
                      go_roundw
                      case rel => exact ⟨k + 1, r, by omega, by go_num, rfl, hst2, hX2⟩
                      case measure => simp [intOf]; omega
                  · obtain rfl : k = es.length := by omega
                    have hTr : TI (arcN es U) es.length n π f r := by rw [hr.out]; exact ti_fold (fun j hj => ho.out j hj) (arc_ok hes.out U) hTa.out _ (Nat.le_refl _)
                    have hfs := tfold_sum (A := arcN es U) (s := sa) (n := n) (M := es.length) (fun j hj => (arc_ok hes.out U j hj).2.1) es.length (Nat.le_refl _)
                    rw [← hr.out] at hfs
                    have hQr : r.m = false → ∀ j, j < es.length → ¬ Gives (arcN es U) r.d j := fun h => by
                      rw [hr.out] at h
                      obtain ⟨h1, h2⟩ := tfold_quiet (arcN es U) sa es.length h
                      rw [hr.out, h1]
                      exact h2
                    have hGr : isum n r.d + (if r.m = true then 1 else 0) ≤ ((gk - 1 : Nat) : Int) := by
                      have h1 := hG1.out
                      have h2 := hfs.1
                      by_cases h3 : r.m = true
                      · have h4 := hfs.2 h3 hsm.out
                        rw [if_pos h3]
                        omega
                      · rw [if_neg h3]
                        omega
                    replace hTr := hide hTr
                    replace hQr := hide hQr
                    replace hGr := hide hGr
                    clear hfs hG1 hlt hk
                    go_wp2
                    go_roundg (gk - 1)
                    case measure => omega
                    case rel => exact ⟨r, rfl, hX, hTr, hQr, hGr⟩
              | false =>
                have hq := hide (hQ.out hm)
                replace hm := hide hm
                have c0 := hX.out.dist.atI t ht
                obtain ⟨z1, z2, z3, z4, z5⟩ := hX.out.low
                obtain ⟨fd, fp, fu⟩ := hX.out.facts
                have hft := hT.out.far t
                obtain ⟨dt, hdt⟩ : ∃ x, x = s.d t := ⟨_, rfl⟩
                rw [← hdt] at c0 hft
                unfold FAR at hft
                clear hQ hG
                by_cases hF : dt = 1099511627776
                · have q1 : (dt == 1099511627776) = true := by simp [hF]
                  have hsf := hide (show s.d t = FAR by rw [← hdt, hF]; rfl)
                  replace hdt := hide hdt
                  replace hF := hide hF
                  go_wp2
                  go_ret
                  exact ⟨s, U, false, rfl, hX.out.keep, hX.out.used, hT.out, hq.out, fun _ => ⟨hsf.out, rfl⟩, fun h => by cases h⟩
                · have q1 : (dt == 1099511627776) = false := by simp [hF]
                  have hsf := hide (show s.d t < FAR by rw [← hdt]; unfold FAR; omega)
                  obtain ⟨l, hl2⟩ := hT.out.chn t hsf.out
                  have hnd := hide (pch_nodup hl2)
                  have hpc := hide hl2
                  have hlk := hide (fun k hk => (pch_lt hl2 k hk))
                  replace hdt := hide hdt
                  replace hF := hide hF
                  clear hl2
                  obtain ⟨wo, rfl⟩ : ∃ wo : World, wo = wr := ⟨_, rfl⟩
                  go_wp2_with fail
                  clear c0 fd fp fu z1 z2 z3 z4 z5
                  go_loopg [18] (l.length + 1) (fun gk s18 wr => ∃ (l1 l2 : List Nat) (v : Nat), s18 = .int .i64 (v : Int) ∧ Hid (l = l1 ++ l2) ∧ Hid (PCh (arcN es U) es.length s.p f v l2) ∧ v < n ∧ Hid (CX es U n gu cu base gd gp av cv s.d s.p (flipL U l1) w wr) ∧ l2.length + 1 ≤ gk)
                  case atStart => exact ⟨[], l, t, rfl, hide rfl, hpc, ht, by rw [flipL_nil]; exact hX, by omega⟩
                  case round =>
                    clear hX
                    obtain ⟨l1, l2, v, rfl, hll, hpv, hvn, hX, hgk⟩ := hrel
                    by_cases hvf : v = f
                    · subst hvf
                      have hl2 := pch_one hpv.out PCh.top
                      have q2 : ((v : Int) != (v : Int)) = false := by simp
                      have hle := hide (show l1 = l by rw [hll.out, hl2]; simp)
                      replace hl2 := hide hl2
                      go_wp2
                      go_ret
                      exact ⟨s, flipL U l1, true, rfl, hX.out.keep, hX.out.used, hT.out, hq.out, (fun h => by cases h), fun _ => ⟨hsf.out, l, hpc.out, by rw [hle.out]⟩⟩
                    · obtain ⟨k, l3, rfl, hk, hpk, hak, hp3⟩ := pch_next hpv.out hvf
                      have hkn : k ∉ l1 := by
                        have h1 := hnd.out
                        rw [hll.out] at h1
                        exact fun h => (List.nodup_append.1 h1).2.2 k h k List.mem_cons_self rfl
                      obtain ⟨z1, z2, z3, z4, z5⟩ := hX.out.low
                      obtain ⟨fd, fp, fu⟩ := hX.out.facts
                      obtain ⟨ga, rfl, ga1, ga2, a0, a1, a2, a3⟩ := hX.out.arc k hk
                      have p0 := hX.out.pred.atI v hvn
                      rw [hpk] at p0
                      have u0 := hX.out.atU k hk
                      have hX1 := hide (hX.out.alloc (.cells #[.int .i64 ((arcN es U k).u : Int), .int .i64 ((arcN es U k).v : Int), .int .i64 (arcN es U k).c, .int .i64 (k : Int)] 238))
                      have hun := (arc_ok hes.out U k hk).1
                      have hfl := hide (flipL_snoc (U := U) hkn)
                      have hll2 := hide (show l = (l1 ++ [k]) ++ l3 by rw [hll.out]; simp)
                      have q2 : ((v : Int) != (f : Int)) = true := by simp; omega
                      have iv : (0 : Int) ≤ (v : Int) ∧ (v : Int) < (n : Int) := by omega
                      have ik : (0 : Int) ≤ (k : Int) ∧ (k : Int) < (es.length : Int) := by omega
                      obtain ⟨u, hu⟩ : ∃ x, x = (arcN es U k).u := ⟨_, rfl⟩
                      obtain ⟨vv, hvv⟩ : ∃ x, x = (arcN es U k).v := ⟨_, rfl⟩
                      obtain ⟨cc, hcc⟩ : ∃ x, x = (arcN es U k).c := ⟨_, rfl⟩
                      obtain ⟨b, hb⟩ : ∃ x, x = flipL U l1 k := ⟨_, rfl⟩
                      rw [← hu] at a0 hX1 hun hp3
                      rw [← hvv] at a1 hX1
                      rw [← hcc] at a2 hX1
                      rw [← hb] at u0 hfl
                      replace hp3 := hide hp3
                      replace hu := hide hu
                      replace hvv := hide hvv
                      replace hcc := hide hcc
                      replace hb := hide hb
                      replace hpk := hide hpk
                      replace hak := hide hak
                      simp only [List.length_cons] at hgk
                      go_upto_region 30 with fail
                      obtain ⟨be, hbe⟩ : ∃ be, be = wr.heap.size := ⟨_, rfl⟩
                      obtain ⟨w4, h4⟩ : ∃ w4, w4 = wr.alloc (.cells #[.int .i64 (u : Int), .int .i64 (vv : Int), .int .i64 cc, .int .i64 (k : Int)] 238) := ⟨_, rfl⟩
                      have e0 : w4.cell? ⟨be, 0, none⟩ = some (.int .i64 (u : Int)) := by rw [h4, hbe]; simp [go_sem]
                      have e3 : w4.cell? ⟨be, 3, none⟩ = some (.int .i64 (k : Int)) := by rw [h4, hbe]; simp [go_sem]
                      rw [← h4] at hX1
                      simp only [← h4]
                      simp only [← hbe]
                      have hge : gd < be ∧ gp < be ∧ gu < be ∧ be < w4.heap.size := by rw [h4]; simp; omega
                      replace h4 := hide h4
                      replace hbe := hide hbe
                      have u0 := hX1.out.atU k hk
                      rw [← hb.out] at u0
                      obtain ⟨-, -, fu⟩ := hX1.out.facts
                      clear hX a0 a1 a2 a3 ga1 ga2 fd fp p0
                      have hX2 := hide (hX1.out.setU k hk (!b))
                      rw [hfl.out] at hX2
                      go_region
                      go_wp2
                      go_roundg (gk - 1)
                      case measure => omega
                      case rel => exact ⟨l1 ++ [k], l3, u, rfl, hll2, hp3, hun, hide (by first | with_reducible exact hX2.out | exact hX2.out.drew), by omega⟩
end Go.Proofs.Ytcehdpeeaogpiaa
