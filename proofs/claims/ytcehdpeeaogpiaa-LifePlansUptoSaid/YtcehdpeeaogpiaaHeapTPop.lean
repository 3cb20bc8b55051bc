/-
  heap.Pop over places. Conditions: at least one, bounds on the length.
-/
import Derived.Test.YtcehdpeeaogpiaaHeapTPush
namespace Go.Proofs.Ytcehdpeeaogpiaa
open Go.RowKit
set_option linter.unusedSimpArgs false
set_option linter.unusedVariables false
/-- the last put first -/
theorem HeapT.lastFirst {w : World} {base g n gs c : Nat} {lf : Value} {f : Nat → Ed} (h : HeapT w base g lf (.slice (some ⟨gs, 0, none⟩) (n + 1) c) (n + 1) f) :
    HeapT ((((w.setCell ⟨gs, 0, none⟩ (.int .i64 (f n).u)).setCell ⟨gs, 1, none⟩ (.int .i64 (f n).v)).setCell ⟨gs, 2, none⟩ (.int .i64 (f n).c)).setCell ⟨g, 1, none⟩ (.slice (some ⟨gs, 0, none⟩) n c)) base g lf (.slice (some ⟨gs, 0, none⟩) n c) n (upz f 0 (f n)) := by
  have hne : gs ≠ g := fun e => h.ap (by rw [e]; rfl)
  have h1 := h.own.putT 0 (by rw [rw_len]; omega) (f n)
  rw [rw_set, rw_snoc] at h1
  have h2 := h1.shrink lenE
  have hng : ¬ (g = gs) := fun e => hne e.symm
  have kp := hide ((((Keep.refl (fun k => k = gs) w).setCell (p := ⟨gs, 0, none⟩) (.inl rfl) (.int .i64 (f n).u)).setCell (p := ⟨gs, 1, none⟩) (.inl rfl) (.int .i64 (f n).v)).setCell (p := ⟨gs, 2, none⟩) (.inl rfl) (.int .i64 (f n).c))
  have h3 : Own encE 3 178 (((w.setCell ⟨gs, 0, none⟩ (.int .i64 (f n).u)).setCell ⟨gs, 1, none⟩ (.int .i64 (f n).v)).setCell ⟨gs, 2, none⟩ (.int .i64 (f n).c)) base (.slice (some ⟨gs, 0, none⟩) n c) (RW n (upz f 0 (f n))) := by
    simpa using h2
  replace h3 := hide h3
  replace kp := kp.out
  refine ⟨h.bg, ?_, ?_, ?_, ?_, h3.out.elsewhere (by simp [Value.ownBlock]; exact hne) _, by simp [Value.ownBlock]; exact hne⟩
  · have := Nat.lt_of_lt_of_le h.lt kp.size; simpa using this
  · exact cu_set_off (kp.cu h.c0 hng) (by omega)
  · exact World.cell?_setCell_same _ _ _ (kp.cu h.c1 hng)
  · exact fu_set ((kp.frozen (p := ⟨g, 1, none⟩) h.lt hng).trans h.f1)
/-- what Pop hands back and keeps -/
def PoppedT (w : World) (base g gs c : Nat) (lf : Value) (n : Nat) (f : Nat → Ed) (p : Ed) (e : Ending) (w' : World) : Prop :=
  e = .returned (.agg #[.int .i64 p.u, .int .i64 p.v, .int .i64 p.c]) ∧ HeapT w' base g lf (.slice (some ⟨gs, 0, none⟩) n c) n f ∧ Keep (fun k => k = g ∨ k = gs) w w'
/-- what holds while Pop sifts down -/
structure PopT (w : World) (base g gs c : Nat) (lf : Value) (n : Nat) (f : Nat → Ed) (p : Ed) (wr : World) : Prop where
  at' : HeapT wr base g lf (.slice (some ⟨gs, 0, none⟩) n c) n f
  keep : Keep (fun k => k = g ∨ k = gs) w wr
  oa : wr.cell? ⟨w.heap.size + 1, 0, none⟩ = some (.int .i64 p.u)
  ob : wr.cell? ⟨w.heap.size + 1, 1, none⟩ = some (.int .i64 p.v)
  ox : wr.cell? ⟨w.heap.size + 1, 2, none⟩ = some (.int .i64 p.c)
  ra : wr.cell? ⟨w.heap.size, 0, none⟩ = some (.int .i64 0)
  rb : wr.cell? ⟨w.heap.size, 1, none⟩ = some (.int .i64 0)
  rx : wr.cell? ⟨w.heap.size, 2, none⟩ = some (.int .i64 0)
  fa : wr.frozen? ⟨w.heap.size, 0, none⟩ = false
  fb : wr.frozen? ⟨w.heap.size, 1, none⟩ = false
  fx : wr.frozen? ⟨w.heap.size, 2, none⟩ = false
  old : gs < w.heap.size
theorem PopT.lt {w : World} {base g gs c n : Nat} {lf : Value} {f : Nat → Ed} {p : Ed} {wr : World} (h : PopT w base g gs c lf n f p wr) : w.heap.size + 1 < wr.heap.size := cell_lt h.oa
theorem PopT.stays {w : World} {base g gs c n : Nat} {lf : Value} {f : Nat → Ed} {p : Ed} {wr w' : World} (h : PopT w base g gs c lf n f p wr) (k : Below wr.heap.size wr w') : PopT w base g gs c lf n f p w' :=
  have hl := h.lt
  ⟨h.at'.stays k, h.keep.trans (Keep.new k), cu_below k h.oa hl, cu_below k h.ob hl, cu_below k h.ox hl, cu_below k h.ra (by simp; omega), cu_below k h.rb (by simp; omega), cu_below k h.rx (by simp; omega), fu_below k h.fa (by simp; omega), fu_below k h.fb (by simp; omega), fu_below k h.fx (by simp; omega), h.old⟩
theorem PopT.drew {w : World} {base g gs c n : Nat} {lf : Value} {f : Nat → Ed} {p : Ed} {wr : World} (h : PopT w base g gs c lf n f p wr) : PopT w base g gs c lf n f p wr.drew := h.stays (below_drew _)
theorem PopT.drewN {w : World} {base g gs c n : Nat} {lf : Value} {f : Nat → Ed} {p : Ed} {wr : World} (h : PopT w base g gs c lf n f p wr) (m : Nat) : PopT w base g gs c lf n f p (wr.drewN m) := by
  induction m with
  | zero => exact h
  | succ m ih => exact ih.drew
theorem PopT.swap {w : World} {base g gs c n : Nat} {lf : Value} {f : Nat → Ed} {p : Ed} {wr : World} (h : PopT w base g gs c lf n f p wr) {i k : Nat} (hi : i < n) (hk : k < n) :
    PopT w base g gs c lf n (swf f i k) p ((((((wr.setCell ⟨gs, i * 3, none⟩ (.int .i64 (f k).u)).setCell ⟨gs, i * 3 + 1, none⟩ (.int .i64 (f k).v)).setCell ⟨gs, i * 3 + 2, none⟩ (.int .i64 (f k).c)).setCell ⟨gs, k * 3, none⟩ (.int .i64 (f i).u)).setCell ⟨gs, k * 3 + 1, none⟩ (.int .i64 (f i).v)).setCell ⟨gs, k * 3 + 2, none⟩ (.int .i64 (f i).c)) := by
  have ho := h.old
  have hs : ∀ {b o : Nat} {v u : Value} {wx : World} {q : Nat}, w.heap.size ≤ b → wx.cell? ⟨b, o, none⟩ = some v → (wx.setCell ⟨gs, q, none⟩ u).cell? ⟨b, o, none⟩ = some v := fun hb hc => cu_set hc (by simp; omega)
  have h6 : ∀ {b o : Nat} {v u1 u2 u3 u4 u5 u6 : Value} {wx : World} {q1 q2 q3 q4 q5 q6 : Nat}, w.heap.size ≤ b → wx.cell? ⟨b, o, none⟩ = some v → ((((((wx.setCell ⟨gs, q1, none⟩ u1).setCell ⟨gs, q2, none⟩ u2).setCell ⟨gs, q3, none⟩ u3).setCell ⟨gs, q4, none⟩ u4).setCell ⟨gs, q5, none⟩ u5).setCell ⟨gs, q6, none⟩ u6).cell? ⟨b, o, none⟩ = some v := fun hb hc => hs hb (hs hb (hs hb (hs hb (hs hb (hs hb hc)))))
  have hn : (fun k => k = g ∨ k = gs) gs ∨ w.heap.size ≤ gs := .inl (.inr rfl)
  exact ⟨h.at'.swap hi hk, (((((h.keep.setCell (p := ⟨gs, i * 3, none⟩) hn _).setCell (p := ⟨gs, i * 3 + 1, none⟩) hn _).setCell (p := ⟨gs, i * 3 + 2, none⟩) hn _).setCell (p := ⟨gs, k * 3, none⟩) hn _).setCell (p := ⟨gs, k * 3 + 1, none⟩) hn _).setCell (p := ⟨gs, k * 3 + 2, none⟩) hn _,
    h6 (by omega) h.oa, h6 (by omega) h.ob, h6 (by omega) h.ox, h6 (by omega) h.ra, h6 (by omega) h.rb, h6 (by omega) h.rx,
    fu_set (fu_set (fu_set (fu_set (fu_set (fu_set h.fa))))), fu_set (fu_set (fu_set (fu_set (fu_set (fu_set h.fb))))), fu_set (fu_set (fu_set (fu_set (fu_set (fu_set h.fx))))), ho⟩
theorem PopT.start {w : World} {base g gs c n : Nat} {lf : Value} {f : Nat → Ed} (h : HeapT w base g lf (.slice (some ⟨gs, 0, none⟩) (n + 1) c) (n + 1) f) (p : Ed) {t1 t2 : TypeId} :
    PopT w base g gs c lf n (upz f 0 (f n)) p ((((((w.setCell ⟨gs, 0, none⟩ (.int .i64 (f n).u)).setCell ⟨gs, 1, none⟩ (.int .i64 (f n).v)).setCell ⟨gs, 2, none⟩ (.int .i64 (f n).c)).setCell ⟨g, 1, none⟩ (.slice (some ⟨gs, 0, none⟩) n c)).alloc (.cells #[.int .i64 0, .int .i64 0, .int .i64 0] t1)).alloc (.cells #[.int .i64 p.u, .int .i64 p.v, .int .i64 p.c] t2)).drew := by
  have hg := h.lt
  have hgs := h.own.at_base
  have h2 := (h.lastFirst.alloc (.cells #[.int .i64 0, .int .i64 0, .int .i64 0] t1)).alloc (.cells #[.int .i64 p.u, .int .i64 p.v, .int .i64 p.c] t2)
  have hk : Keep (fun k => k = g ∨ k = gs) w ((((w.setCell ⟨gs, 0, none⟩ (.int .i64 (f n).u)).setCell ⟨gs, 1, none⟩ (.int .i64 (f n).v)).setCell ⟨gs, 2, none⟩ (.int .i64 (f n).c)).setCell ⟨g, 1, none⟩ (.slice (some ⟨gs, 0, none⟩) n c)) :=
    ((((Keep.refl _ w).setCell (p := ⟨gs, 0, none⟩) (.inl (.inr rfl)) _).setCell (p := ⟨gs, 1, none⟩) (.inl (.inr rfl)) _).setCell (p := ⟨gs, 2, none⟩) (.inl (.inr rfl)) _).setCell (p := ⟨g, 1, none⟩) (.inl (.inl rfl)) _
  have hz : ((((w.setCell ⟨gs, 0, none⟩ (.int .i64 (f n).u)).setCell ⟨gs, 1, none⟩ (.int .i64 (f n).v)).setCell ⟨gs, 2, none⟩ (.int .i64 (f n).c)).setCell ⟨g, 1, none⟩ (.slice (some ⟨gs, 0, none⟩) n c)).heap.size = w.heap.size := by simp
  generalize ((((w.setCell ⟨gs, 0, none⟩ (.int .i64 (f n).u)).setCell ⟨gs, 1, none⟩ (.int .i64 (f n).v)).setCell ⟨gs, 2, none⟩ (.int .i64 (f n).c)).setCell ⟨g, 1, none⟩ (.slice (some ⟨gs, 0, none⟩) n c)) = W at h2 hk hz ⊢
  refine ⟨h2.drew, ?_, ?_, ?_, ?_, ?_, ?_, ?_, ?_, ?_, ?_, hgs.2⟩
  · exact ((hk.alloc _).alloc _).drew
  all_goals rw [← hz]
  · exact cu_drew (by simp [go_sem])
  · exact cu_drew (by simp [go_sem])
  · exact cu_drew (by simp [go_sem])
  · exact cu_drew (cu_alloc (by simp [go_sem]))
  · exact cu_drew (cu_alloc (by simp [go_sem]))
  · exact cu_drew (cu_alloc (by simp [go_sem]))
  · exact fu_drew (fu_alloc (by simp [go_sem]))
  · exact fu_drew (fu_alloc (by simp [go_sem]))
  · exact fu_drew (fu_alloc (by simp [go_sem]))
/-- the result stored -/
theorem PopT.done {w : World} {base g gs c n : Nat} {lf : Value} {f : Nat → Ed} {p : Ed} {wr : World} (h : PopT w base g gs c lf n f p wr) :
    HeapT (((wr.setCell ⟨w.heap.size, 0, none⟩ (.int .i64 p.u)).setCell ⟨w.heap.size, 1, none⟩ (.int .i64 p.v)).setCell ⟨w.heap.size, 2, none⟩ (.int .i64 p.c)) base g lf (.slice (some ⟨gs, 0, none⟩) n c) n f ∧
    Keep (fun k => k = g ∨ k = gs) w (((wr.setCell ⟨w.heap.size, 0, none⟩ (.int .i64 p.u)).setCell ⟨w.heap.size, 1, none⟩ (.int .i64 p.v)).setCell ⟨w.heap.size, 2, none⟩ (.int .i64 p.c)) := by
  have ho := h.old
  have kp := (((Keep.refl (fun k => k = w.heap.size) wr).setCell (p := ⟨w.heap.size, 0, none⟩) (.inl rfl) (.int .i64 p.u)).setCell (p := ⟨w.heap.size, 1, none⟩) (.inl rfl) (.int .i64 p.v)).setCell (p := ⟨w.heap.size, 2, none⟩) (.inl rfl) (.int .i64 p.c)
  refine ⟨h.at'.keep kp ?_ (fun k hk => ?_), ((h.keep.setCell (.inr (Nat.le_refl _)) _).setCell (.inr (Nat.le_refl _)) _).setCell (.inr (Nat.le_refl _)) _⟩
  · intro e
    have h2 := h.at'.c1
    have h4 := h.rb
    rw [e] at h2
    rw [h4] at h2
    cases h2
  · simp [Value.ownBlock] at hk
    omega
set_option maxRecDepth 100000 in
set_option maxHeartbeats 4000000 in
theorem popT_any (base g n gs c0 : Nat) (f : Nat → Ed) (w : World) (hH : HeapT w base g (.func (.func 139) #[] #[]) (.slice (some ⟨gs, 0, none⟩) (n + 1) c0) (n + 1) f) (hn : n ≤ 1000000) :
    Calls Try.prog 145 #[.pointer (some ⟨g, 0, none⟩)] w (PoppedT w base g gs c0 (.func (.func 139) #[] #[]) n (siftDown plLt n (upz f 0 (f n)) 0) (f 0)) := by
  have hg := hH.lt
  have hbg := hH.bg
  have hgs := hH.own.at_base
  have hne : gs ≠ g := fun e => hH.ap (by rw [e]; rfl)
  have hne2 : g ≠ gs := fun e => hne e.symm
  have k0 := hH.c0
  have k1 := hH.c1
  have f1 := hH.f1
  obtain ⟨ca, cb, cx⟩ := hH.cells 0 (by omega)
  obtain ⟨da, db, dx⟩ := hH.cells n (by omega)
  have fa := hH.frees 0
  have fb := hH.frees (0 + 1)
  have fx := hH.frees (0 + 2)
  simp only [Nat.zero_mul] at ca cb cx
  have icap : n ≤ c0 := by
    rcases hH.own.2 with ⟨h1, _⟩ | ⟨g', cap, cur, h1, h2, h3, h4, h5, h6, h7⟩
    · cases h1
    · simp only [Value.slice.injEq] at h1
      obtain ⟨_, _, rfl⟩ := h1
      rw [rw_len] at h4
      omega
  go_enter Try.func145, Try.ntmps145
  have hH' := hide hH
  clear hH
  have in0 : (0 : Int) ≤ (n : Int) ∧ (n : Int) < (n : Int) + 1 := by omega
  have hI := hide (PopT.start hH'.out (f 0) (t1 := 178) (t2 := 178))
  go_wp2
  go_region
  go_wp2_with fail
  generalize ((((((w.setCell ⟨gs, 0, none⟩ (.int .i64 (f n).u)).setCell ⟨gs, 1, none⟩ (.int .i64 (f n).v)).setCell ⟨gs, 2, none⟩ (.int .i64 (f n).c)).setCell ⟨g, 1, none⟩ (.slice (some ⟨gs, 0, none⟩) n c0)).alloc (.cells #[.int .i64 0, .int .i64 0, .int .i64 0] 178)).alloc (.cells #[.int .i64 (f 0).u, .int .i64 (f 0).v, .int .i64 (f 0).c] 178)).drew = W1 at hI ⊢
  clear k0 k1 f1 da db dx fa fb fx ca cb cx hH' in0 icap
  go_loopw [5] (fun i wr => ∃ (k : Nat) (f' : Nat → Ed), (k < n ∨ k = 0) ∧ i = .int .i64 k ∧ Hid (PopT w base g gs c0 (.func (.func 139) #[] #[]) n f' (f 0) wr) ∧ Hid (siftDown plLt n f' k = siftDown plLt n (upz f 0 (f n)) 0)) (fun i _ => n - (intOf i).toNat)
  case atStart => exact ⟨0, _, by omega, rfl, hI, rfl⟩
  case round =>
    obtain ⟨i, f', hk, rfl, hI, hS⟩ := hrel
    have hi6 : i ≤ 1000000 := by omega
    by_cases hlt : 2 * i + 1 < n
    · obtain ⟨m, hm⟩ : ∃ m, m = 2 * i + 1 := ⟨_, rfl⟩
      have hq := hide (show 2 * (i : Int) + 1 = (m : Int) by omega)
      have hm' := hide hm
      have hmn : m < n := by omega
      have hmn2 : (m : Int) < (n : Int) := by omega
      have hkd := hide (kid_is (lt := plLt) n f' i hlt)
      obtain ⟨ma, mb, mx⟩ := hI.out.at'.cells m hmn
      have k0 := hI.out.at'.c0
      have k1 := hI.out.at'.c1
      have hgl := hI.out.at'.lt
      have hgsl := hI.out.at'.own.at_base.2
      by_cases hlt2 : m + 1 < n
      · obtain ⟨na, nb, nx⟩ := hI.out.at'.cells (m + 1) hlt2
        have im1 : IntKind.i64.wrap ((m : Int) + 1) = (m : Int) + 1 := IntWalk.i64_in _ (by omega)
        have im2 : (0 : Int) ≤ (m : Int) + 1 ∧ (m : Int) + 1 < (n : Int) := by omega
        have im3 : ((m : Int) + 1).toNat = m + 1 := by omega
        have im4 : decide ((m : Int) + 1 < (n : Int)) = true := by simp; omega
        have hC0 := hide (lessT_any (f' (m + 1)) (f' m))
        obtain ⟨b, hb⟩ : ∃ b, b = plLt (f' (m + 1)) (f' m) := ⟨_, rfl⟩
        rw [← hb] at hC0
        replace hb := hide hb
        have key := hide (show ∀ w', Below wr.heap.size wr w' → (Below wr.heap.size wr w' ∧ w'.cell? ⟨g, 0, none⟩ = some (.func (.func 139) #[] #[]) ∧ w'.cell? ⟨g, 1, none⟩ = some (.slice (some ⟨gs, 0, none⟩) n c0) ∧ w'.cell? ⟨gs, m * 3, none⟩ = some (.int .i64 (f' m).u) ∧ w'.cell? ⟨gs, m * 3 + 1, none⟩ = some (.int .i64 (f' m).v) ∧ w'.cell? ⟨gs, m * 3 + 2, none⟩ = some (.int .i64 (f' m).c) ∧ w'.cell? ⟨gs, (m + 1) * 3, none⟩ = some (.int .i64 (f' (m + 1)).u) ∧ w'.cell? ⟨gs, (m + 1) * 3 + 1, none⟩ = some (.int .i64 (f' (m + 1)).v) ∧ w'.cell? ⟨gs, (m + 1) * 3 + 2, none⟩ = some (.int .i64 (f' (m + 1)).c)) from
          fun w' hb => ⟨hb, cu_below hb k0 hgl, cu_below hb k1 hgl, cu_below hb ma hgsl, cu_below hb mb hgsl, cu_below hb mx hgsl, cu_below hb na hgsl, cu_below hb nb hgsl, cu_below hb nx hgsl⟩)
        replace im1 := hide im1
        replace im3 := hide im3
        clear hm
        go_wp2
        replace hq := hq.out
        simp only [hq]
        clear hq
        replace im1 := im1.out
        replace im3 := im3.out
        go_region_held3 (fun w' => Below wr.heap.size wr w' ∧ w'.cell? ⟨g, 0, none⟩ = some (.func (.func 139) #[] #[]) ∧ w'.cell? ⟨g, 1, none⟩ = some (.slice (some ⟨gs, 0, none⟩) n c0) ∧ w'.cell? ⟨gs, m * 3, none⟩ = some (.int .i64 (f' m).u) ∧ w'.cell? ⟨gs, m * 3 + 1, none⟩ = some (.int .i64 (f' m).v) ∧ w'.cell? ⟨gs, m * 3 + 2, none⟩ = some (.int .i64 (f' m).c) ∧ w'.cell? ⟨gs, (m + 1) * 3, none⟩ = some (.int .i64 (f' (m + 1)).u) ∧ w'.cell? ⟨gs, (m + 1) * 3 + 1, none⟩ = some (.int .i64 (f' (m + 1)).v) ∧ w'.cell? ⟨gs, (m + 1) * 3 + 2, none⟩ = some (.int .i64 (f' (m + 1)).c))
          (first | exact key.out _ (below_drew _) | exact key.out _ (by assumption))
          (first | (go_at_call 139; refine (hC0.out _).mono ?_; rintro e w4 ⟨rfl, hb5⟩; have hb6 := below_step (‹Below wr.heap.size wr _ ∧ _› : _ ∧ _).1 hb5))
        have hI4 := hide (hI.out.stays (‹Below wr.heap.size wr w4 ∧ _› : _ ∧ _).1)
        obtain ⟨wq, rfl⟩ : ∃ wq : World, wq = w4 := ⟨_, rfl⟩
        clear key hC0 hb5 hb6 ma mb mx na nb nx k0 k1 hgl hgsl im1 im3 im4
        cases b
        · have hkid := hide (show m = kid plLt n f' i by unfold kid; rw [← hm'.out, if_neg (by rw [← hb.out]; simp)])
          obtain ⟨k, rfl⟩ : ∃ k, k = m := ⟨_, rfl⟩
          have hkn := hmn
          have hik : i < k := by have := hm'.out; omega
          clear im2
          go_wp2
          obtain ⟨ka, kb, kx⟩ := hI4.out.at'.cells k hkn
          obtain ⟨ia, ib, ix⟩ := hI4.out.at'.cells i (by omega)
          have k0 := hI4.out.at'.c0
          have k1 := hI4.out.at'.c1
          have hgl := hI4.out.at'.lt
          have hgsl := hI4.out.at'.own.at_base.2
          have ik : (0 : Int) ≤ (k : Int) ∧ (k : Int) < (n : Int) := by omega
          have ii : (0 : Int) ≤ (i : Int) ∧ (i : Int) < (n : Int) := by omega
          have hC0 := hide (lessT_any (f' k) (f' i))
          obtain ⟨b2, hb2⟩ : ∃ b, b = plLt (f' k) (f' i) := ⟨_, rfl⟩
          rw [← hb2] at hC0
          replace hb2 := hide hb2
          have key := hide (show ∀ w', Below wq.heap.size wq w' → (Below wq.heap.size wq w' ∧ w'.cell? ⟨g, 0, none⟩ = some (.func (.func 139) #[] #[]) ∧ w'.cell? ⟨g, 1, none⟩ = some (.slice (some ⟨gs, 0, none⟩) n c0) ∧ w'.cell? ⟨gs, k * 3, none⟩ = some (.int .i64 (f' k).u) ∧ w'.cell? ⟨gs, k * 3 + 1, none⟩ = some (.int .i64 (f' k).v) ∧ w'.cell? ⟨gs, k * 3 + 2, none⟩ = some (.int .i64 (f' k).c) ∧ w'.cell? ⟨gs, i * 3, none⟩ = some (.int .i64 (f' i).u) ∧ w'.cell? ⟨gs, i * 3 + 1, none⟩ = some (.int .i64 (f' i).v) ∧ w'.cell? ⟨gs, i * 3 + 2, none⟩ = some (.int .i64 (f' i).c)) from
            fun w' hb => ⟨hb, cu_below hb k0 hgl, cu_below hb k1 hgl, cu_below hb ka hgsl, cu_below hb kb hgsl, cu_below hb kx hgsl, cu_below hb ia hgsl, cu_below hb ib hgsl, cu_below hb ix hgsl⟩)
          go_region_held3 (fun w' => Below wq.heap.size wq w' ∧ w'.cell? ⟨g, 0, none⟩ = some (.func (.func 139) #[] #[]) ∧ w'.cell? ⟨g, 1, none⟩ = some (.slice (some ⟨gs, 0, none⟩) n c0) ∧ w'.cell? ⟨gs, k * 3, none⟩ = some (.int .i64 (f' k).u) ∧ w'.cell? ⟨gs, k * 3 + 1, none⟩ = some (.int .i64 (f' k).v) ∧ w'.cell? ⟨gs, k * 3 + 2, none⟩ = some (.int .i64 (f' k).c) ∧ w'.cell? ⟨gs, i * 3, none⟩ = some (.int .i64 (f' i).u) ∧ w'.cell? ⟨gs, i * 3 + 1, none⟩ = some (.int .i64 (f' i).v) ∧ w'.cell? ⟨gs, i * 3 + 2, none⟩ = some (.int .i64 (f' i).c))
            (first | exact key.out _ (below_drew _) | exact key.out _ (by assumption))
            (first | (go_at_call 139; refine (hC0.out _).mono ?_; rintro e w5 ⟨rfl, hb5⟩; have hb6 := below_step (‹Below wq.heap.size wq _ ∧ _› : _ ∧ _).1 hb5))
          have hI5 := hide (hI4.out.stays (‹Below wq.heap.size wq w5 ∧ _› : _ ∧ _).1)
          clear key hC0 hb5 hb6 ka kb kx ia ib ix k0 k1 hI4 hgl hgsl
          cases b2
          · have hoa := hI5.out.oa
            have hob := hI5.out.ob
            have hox := hI5.out.ox
            have hra := hI5.out.ra
            have hrb := hI5.out.rb
            have hrx := hI5.out.rx
            have hfa := hI5.out.fa
            have hfb := hI5.out.fb
            have hfx := hI5.out.fx
            have hz := hI5.out.lt
            have hD := hide hI5.out.done
            go_wp2
            refine bodyPost_ret (v := .agg #[.int .i64 (f 0).u, .int .i64 (f 0).v, .int .i64 (f 0).c]) (by simp [results, Try.results145, go_sem, hra, hrb, hrx, hz]) rfl ⟨rfl, ?_, hD.out.2⟩
            rw [← hS.out, siftDown_stop hlt (by rw [← hkid.out]; exact hb2.out.symm)]
            exact hD.out.1
          · obtain ⟨ka, kb, kx⟩ := hI5.out.at'.cells k hkn
            obtain ⟨ia, ib, ix⟩ := hI5.out.at'.cells i (by omega)
            have k0 := hI5.out.at'.c0
            have k1 := hI5.out.at'.c1
            have hgl := hI5.out.at'.lt
            have hgsl := hI5.out.at'.own.at_base.2
            have ffk := hI5.out.at'.frees (k * 3)
            have ffk1 := hI5.out.at'.frees (k * 3 + 1)
            have ffk2 := hI5.out.at'.frees (k * 3 + 2)
            have ffi := hI5.out.at'.frees (i * 3)
            have ffi1 := hI5.out.at'.frees (i * 3 + 1)
            have ffi2 := hI5.out.at'.frees (i * 3 + 2)
            go_wp2
            go_region
            go_wp2
            have hsw := hide (hI5.out.swap (show i < n by omega) hkn)
            have hgo := siftDown_go (lt := plLt) (n := n) (f := f') (i := i) hlt (by rw [← hkid.out]; exact hb2.out.symm)
            rw [← hkid.out] at hgo
            replace hgo := hide hgo
            go_roundw
            case rel =>
              refine ⟨k, swf f' i k, by omega, by go_num, hide ?_, hide ?_⟩
              · first | exact hsw.out.drew | exact hsw.out.drewN _
              · rw [← hS.out]; exact hgo.out.symm
            case measure => simp [intOf]; omega
        · obtain ⟨k, hk1⟩ : ∃ k, k = m + 1 := ⟨_, rfl⟩
          have hkid := hide (show k = kid plLt n f' i by unfold kid; rw [← hm'.out, if_pos ⟨hlt2, by rw [← hb.out]⟩, hk1])
          have hkn : k < n := by omega
          have hik : i < k := by have := hm'.out; omega
          have hq2 := hide (show (m : Int) + 1 = (k : Int) by omega)
          replace hk1 := hide hk1
          go_wp2
          simp only [hq2.out]
          obtain ⟨ka, kb, kx⟩ := hI4.out.at'.cells k hkn
          obtain ⟨ia, ib, ix⟩ := hI4.out.at'.cells i (by omega)
          have k0 := hI4.out.at'.c0
          have k1 := hI4.out.at'.c1
          have hgl := hI4.out.at'.lt
          have hgsl := hI4.out.at'.own.at_base.2
          have ik : (0 : Int) ≤ (k : Int) ∧ (k : Int) < (n : Int) := by omega
          have ii : (0 : Int) ≤ (i : Int) ∧ (i : Int) < (n : Int) := by omega
          have hC0 := hide (lessT_any (f' k) (f' i))
          obtain ⟨b2, hb2⟩ : ∃ b, b = plLt (f' k) (f' i) := ⟨_, rfl⟩
          rw [← hb2] at hC0
          replace hb2 := hide hb2
          have key := hide (show ∀ w', Below wq.heap.size wq w' → (Below wq.heap.size wq w' ∧ w'.cell? ⟨g, 0, none⟩ = some (.func (.func 139) #[] #[]) ∧ w'.cell? ⟨g, 1, none⟩ = some (.slice (some ⟨gs, 0, none⟩) n c0) ∧ w'.cell? ⟨gs, k * 3, none⟩ = some (.int .i64 (f' k).u) ∧ w'.cell? ⟨gs, k * 3 + 1, none⟩ = some (.int .i64 (f' k).v) ∧ w'.cell? ⟨gs, k * 3 + 2, none⟩ = some (.int .i64 (f' k).c) ∧ w'.cell? ⟨gs, i * 3, none⟩ = some (.int .i64 (f' i).u) ∧ w'.cell? ⟨gs, i * 3 + 1, none⟩ = some (.int .i64 (f' i).v) ∧ w'.cell? ⟨gs, i * 3 + 2, none⟩ = some (.int .i64 (f' i).c)) from
            fun w' hb => ⟨hb, cu_below hb k0 hgl, cu_below hb k1 hgl, cu_below hb ka hgsl, cu_below hb kb hgsl, cu_below hb kx hgsl, cu_below hb ia hgsl, cu_below hb ib hgsl, cu_below hb ix hgsl⟩)
          go_region_held3 (fun w' => Below wq.heap.size wq w' ∧ w'.cell? ⟨g, 0, none⟩ = some (.func (.func 139) #[] #[]) ∧ w'.cell? ⟨g, 1, none⟩ = some (.slice (some ⟨gs, 0, none⟩) n c0) ∧ w'.cell? ⟨gs, k * 3, none⟩ = some (.int .i64 (f' k).u) ∧ w'.cell? ⟨gs, k * 3 + 1, none⟩ = some (.int .i64 (f' k).v) ∧ w'.cell? ⟨gs, k * 3 + 2, none⟩ = some (.int .i64 (f' k).c) ∧ w'.cell? ⟨gs, i * 3, none⟩ = some (.int .i64 (f' i).u) ∧ w'.cell? ⟨gs, i * 3 + 1, none⟩ = some (.int .i64 (f' i).v) ∧ w'.cell? ⟨gs, i * 3 + 2, none⟩ = some (.int .i64 (f' i).c))
            (first | exact key.out _ (below_drew _) | exact key.out _ (by assumption))
            (first | (go_at_call 139; refine (hC0.out _).mono ?_; rintro e w5 ⟨rfl, hb5⟩; have hb6 := below_step (‹Below wq.heap.size wq _ ∧ _› : _ ∧ _).1 hb5))
          have hI5 := hide (hI4.out.stays (‹Below wq.heap.size wq w5 ∧ _› : _ ∧ _).1)
          clear key hC0 hb5 hb6 ka kb kx ia ib ix k0 k1 hI4 hgl hgsl
          cases b2
          · have hoa := hI5.out.oa
            have hob := hI5.out.ob
            have hox := hI5.out.ox
            have hra := hI5.out.ra
            have hrb := hI5.out.rb
            have hrx := hI5.out.rx
            have hfa := hI5.out.fa
            have hfb := hI5.out.fb
            have hfx := hI5.out.fx
            have hz := hI5.out.lt
            have hD := hide hI5.out.done
            go_wp2
            refine bodyPost_ret (v := .agg #[.int .i64 (f 0).u, .int .i64 (f 0).v, .int .i64 (f 0).c]) (by simp [results, Try.results145, go_sem, hra, hrb, hrx, hz]) rfl ⟨rfl, ?_, hD.out.2⟩
            rw [← hS.out, siftDown_stop hlt (by rw [← hkid.out]; exact hb2.out.symm)]
            exact hD.out.1
          · obtain ⟨ka, kb, kx⟩ := hI5.out.at'.cells k hkn
            obtain ⟨ia, ib, ix⟩ := hI5.out.at'.cells i (by omega)
            have k0 := hI5.out.at'.c0
            have k1 := hI5.out.at'.c1
            have hgl := hI5.out.at'.lt
            have hgsl := hI5.out.at'.own.at_base.2
            have ffk := hI5.out.at'.frees (k * 3)
            have ffk1 := hI5.out.at'.frees (k * 3 + 1)
            have ffk2 := hI5.out.at'.frees (k * 3 + 2)
            have ffi := hI5.out.at'.frees (i * 3)
            have ffi1 := hI5.out.at'.frees (i * 3 + 1)
            have ffi2 := hI5.out.at'.frees (i * 3 + 2)
            go_wp2
            go_region
            go_wp2
            have hsw := hide (hI5.out.swap (show i < n by omega) hkn)
            have hgo := siftDown_go (lt := plLt) (n := n) (f := f') (i := i) hlt (by rw [← hkid.out]; exact hb2.out.symm)
            rw [← hkid.out] at hgo
            replace hgo := hide hgo
            go_roundw
            case rel =>
              refine ⟨k, swf f' i k, by omega, by go_num, hide ?_, hide ?_⟩
              · first | exact hsw.out.drew | exact hsw.out.drewN _
              · rw [← hS.out]; exact hgo.out.symm
            case measure => simp [intOf]; omega
      · have hkid := hide (show m = kid plLt n f' i by unfold kid; rw [← hm'.out, if_neg (by omega)])
        obtain ⟨k, rfl⟩ : ∃ k, k = m := ⟨_, rfl⟩
        have hkn := hmn
        have hik : i < k := by have := hm'.out; omega
        have im1 := hide (show IntKind.i64.wrap ((k : Int) + 1) = (k : Int) + 1 from IntWalk.i64_in _ (by omega))
        have im4 := hide (show decide ((k : Int) + 1 < (n : Int)) = false by simp; omega)
        clear hm
        go_wp2
        replace hq := hq.out
        simp only [hq]
        clear hq
        replace im1 := im1.out
        replace im4 := im4.out
        go_quiet (fail)
        clear im1 im4 ma mb mx k0 k1 hgl hgsl
        have hI4 := hide (hI.out.drewN nq)
        generalize wr.drewN nq = wq at hI4 ⊢
        go_wp2
        obtain ⟨ka, kb, kx⟩ := hI4.out.at'.cells k hkn
        obtain ⟨ia, ib, ix⟩ := hI4.out.at'.cells i (by omega)
        have k0 := hI4.out.at'.c0
        have k1 := hI4.out.at'.c1
        have hgl := hI4.out.at'.lt
        have hgsl := hI4.out.at'.own.at_base.2
        have ik : (0 : Int) ≤ (k : Int) ∧ (k : Int) < (n : Int) := by omega
        have ii : (0 : Int) ≤ (i : Int) ∧ (i : Int) < (n : Int) := by omega
        have hC0 := hide (lessT_any (f' k) (f' i))
        obtain ⟨b2, hb2⟩ : ∃ b, b = plLt (f' k) (f' i) := ⟨_, rfl⟩
        rw [← hb2] at hC0
        replace hb2 := hide hb2
        have key := hide (show ∀ w', Below wq.heap.size wq w' → (Below wq.heap.size wq w' ∧ w'.cell? ⟨g, 0, none⟩ = some (.func (.func 139) #[] #[]) ∧ w'.cell? ⟨g, 1, none⟩ = some (.slice (some ⟨gs, 0, none⟩) n c0) ∧ w'.cell? ⟨gs, k * 3, none⟩ = some (.int .i64 (f' k).u) ∧ w'.cell? ⟨gs, k * 3 + 1, none⟩ = some (.int .i64 (f' k).v) ∧ w'.cell? ⟨gs, k * 3 + 2, none⟩ = some (.int .i64 (f' k).c) ∧ w'.cell? ⟨gs, i * 3, none⟩ = some (.int .i64 (f' i).u) ∧ w'.cell? ⟨gs, i * 3 + 1, none⟩ = some (.int .i64 (f' i).v) ∧ w'.cell? ⟨gs, i * 3 + 2, none⟩ = some (.int .i64 (f' i).c)) from
          fun w' hb => ⟨hb, cu_below hb k0 hgl, cu_below hb k1 hgl, cu_below hb ka hgsl, cu_below hb kb hgsl, cu_below hb kx hgsl, cu_below hb ia hgsl, cu_below hb ib hgsl, cu_below hb ix hgsl⟩)
        go_region_held3 (fun w' => Below wq.heap.size wq w' ∧ w'.cell? ⟨g, 0, none⟩ = some (.func (.func 139) #[] #[]) ∧ w'.cell? ⟨g, 1, none⟩ = some (.slice (some ⟨gs, 0, none⟩) n c0) ∧ w'.cell? ⟨gs, k * 3, none⟩ = some (.int .i64 (f' k).u) ∧ w'.cell? ⟨gs, k * 3 + 1, none⟩ = some (.int .i64 (f' k).v) ∧ w'.cell? ⟨gs, k * 3 + 2, none⟩ = some (.int .i64 (f' k).c) ∧ w'.cell? ⟨gs, i * 3, none⟩ = some (.int .i64 (f' i).u) ∧ w'.cell? ⟨gs, i * 3 + 1, none⟩ = some (.int .i64 (f' i).v) ∧ w'.cell? ⟨gs, i * 3 + 2, none⟩ = some (.int .i64 (f' i).c))
          (first | exact key.out _ (below_drew _) | exact key.out _ (by assumption))
          (first | (go_at_call 139; refine (hC0.out _).mono ?_; rintro e w5 ⟨rfl, hb5⟩; have hb6 := below_step (‹Below wq.heap.size wq _ ∧ _› : _ ∧ _).1 hb5))
        have hI5 := hide (hI4.out.stays (‹Below wq.heap.size wq w5 ∧ _› : _ ∧ _).1)
        clear key hC0 hb5 hb6 ka kb kx ia ib ix k0 k1 hI4 hgl hgsl
        cases b2
        · have hoa := hI5.out.oa
          have hob := hI5.out.ob
          have hox := hI5.out.ox
          have hra := hI5.out.ra
          have hrb := hI5.out.rb
          have hrx := hI5.out.rx
          have hfa := hI5.out.fa
          have hfb := hI5.out.fb
          have hfx := hI5.out.fx
          have hz := hI5.out.lt
          have hD := hide hI5.out.done
          go_wp2
          refine bodyPost_ret (v := .agg #[.int .i64 (f 0).u, .int .i64 (f 0).v, .int .i64 (f 0).c]) (by simp [results, Try.results145, go_sem, hra, hrb, hrx, hz]) rfl ⟨rfl, ?_, hD.out.2⟩
          rw [← hS.out, siftDown_stop hlt (by rw [← hkid.out]; exact hb2.out.symm)]
          exact hD.out.1
        · obtain ⟨ka, kb, kx⟩ := hI5.out.at'.cells k hkn
          obtain ⟨ia, ib, ix⟩ := hI5.out.at'.cells i (by omega)
          have k0 := hI5.out.at'.c0
          have k1 := hI5.out.at'.c1
          have hgl := hI5.out.at'.lt
          have hgsl := hI5.out.at'.own.at_base.2
          have ffk := hI5.out.at'.frees (k * 3)
          have ffk1 := hI5.out.at'.frees (k * 3 + 1)
          have ffk2 := hI5.out.at'.frees (k * 3 + 2)
          have ffi := hI5.out.at'.frees (i * 3)
          have ffi1 := hI5.out.at'.frees (i * 3 + 1)
          have ffi2 := hI5.out.at'.frees (i * 3 + 2)
          go_wp2
          go_region
          go_wp2
          have hsw := hide (hI5.out.swap (show i < n by omega) hkn)
          have hgo := siftDown_go (lt := plLt) (n := n) (f := f') (i := i) hlt (by rw [← hkid.out]; exact hb2.out.symm)
          rw [← hkid.out] at hgo
          replace hgo := hide hgo
          go_roundw
          case rel =>
            refine ⟨k, swf f' i k, by omega, by go_num, hide ?_, hide ?_⟩
            · first | exact hsw.out.drew | exact hsw.out.drewN _
            · rw [← hS.out]; exact hgo.out.symm
          case measure => simp [intOf]; omega
    · have hoa := hI.out.oa
      have hob := hI.out.ob
      have hox := hI.out.ox
      have hra := hI.out.ra
      have hrb := hI.out.rb
      have hrx := hI.out.rx
      have hfa := hI.out.fa
      have hfb := hI.out.fb
      have hfx := hI.out.fx
      have hz := hI.out.lt
      have hD := hide hI.out.done
      go_wp2
      refine bodyPost_ret (v := .agg #[.int .i64 (f 0).u, .int .i64 (f 0).v, .int .i64 (f 0).c]) (by simp [results, Try.results145, go_sem, hra, hrb, hrx, hz]) rfl ⟨rfl, ?_, hD.out.2⟩
      rw [← hS.out, siftDown_end hlt]
      exact hD.out.1
end Go.Proofs.Ytcehdpeeaogpiaa
