/-
  heap.Pop over pairs. Conditions: at least one, bounds on the length.
-/
import Derived.Test.YtcehdpeeaogpiaaHeapPush
namespace Go.Proofs.Ytcehdpeeaogpiaa
open Go.RowKit
set_option linter.unusedSimpArgs false
set_option linter.unusedVariables false
theorem Own.shrink {α : Type} {enc : α → List Value} {sz : Nat} {e : TypeId} {w : World} {base : Nat} {xs : List α} {x : α} {g n c : Nat} (h : Own enc sz e w base (.slice (some ⟨g, 0, none⟩) (n + 1) c) (xs ++ [x])) (hlen : ∀ x, (enc x).length = sz) : Own enc sz e w base (.slice (some ⟨g, 0, none⟩) n c) xs := by
  have hl := h.len
  have hn : xs.length = n := by simpa using hl
  have hfl : (xs.flatMap enc).length = xs.length * sz := by
    clear h hl hn
    induction xs with
    | nil => simp
    | cons x r ih => simp only [List.flatMap_cons, List.length_append, ih, hlen, List.length_cons, Nat.succ_mul]; omega
  subst hn
  refine ⟨hfl, ?_⟩
  rcases h.2 with ⟨h1, _⟩ | ⟨g', cap, cur, h1, h2, h3, h4, h5, h6, h7⟩
  · cases h1
  · right
    simp only [Value.slice.injEq, Option.some.injEq, Addr.mk.injEq] at h1
    obtain ⟨⟨rfl, _⟩, _, rfl⟩ := h1
    refine ⟨g, c, cur, rfl, h2, h3, by simp at h4; omega, h5, h6, ?_⟩
    have e1 : cur.toList.take (xs.length * sz) = (cur.toList.take ((xs ++ [x]).length * sz)).take (xs.length * sz) := by
      rw [List.take_take]
      congr 1
      simp only [List.length_append, List.length_cons, List.length_nil, Nat.zero_add, Nat.add_mul, Nat.one_mul]
      omega
    rw [e1, h7, List.flatMap_append, List.take_append_of_le_length (by omega), List.take_of_length_le (by omega)]
theorem rw_snoc {α : Type} (n : Nat) (f : Nat → α) : RW (n + 1) f = RW n f ++ [f n] := by
  unfold RW
  rw [List.range_succ, List.map_append]
  rfl
/-- the last put first -/
theorem HeapAt.lastFirst {w : World} {base g n gs c : Nat} {lf : Value} {f : Nat → P2} (h : HeapAt w base g lf (.slice (some ⟨gs, 0, none⟩) (n + 1) c) (n + 1) f) :
    HeapAt (((w.setCell ⟨gs, 0, none⟩ (.int .i64 (f n).a)).setCell ⟨gs, 1, none⟩ (.int .i64 (f n).b)).setCell ⟨g, 1, none⟩ (.slice (some ⟨gs, 0, none⟩) n c)) base g lf (.slice (some ⟨gs, 0, none⟩) n c) n (upz f 0 (f n)) := by
  have hne : gs ≠ g := fun e => h.ap (by rw [e]; rfl)
  have h1 := h.own.putP 0 (by rw [rw_len]; omega) (f n)
  rw [rw_set, rw_snoc] at h1
  have h2 := h1.shrink lenP
  have hng : ¬ (g = gs) := fun e => hne e.symm
  have kp := hide (((Keep.refl (fun k => k = gs) w).setCell (p := ⟨gs, 0, none⟩) (.inl rfl) (.int .i64 (f n).a)).setCell (p := ⟨gs, 1, none⟩) (.inl rfl) (.int .i64 (f n).b))
  have h3 : Own encP 2 205 ((w.setCell ⟨gs, 0, none⟩ (.int .i64 (f n).a)).setCell ⟨gs, 1, none⟩ (.int .i64 (f n).b)) base (.slice (some ⟨gs, 0, none⟩) n c) (RW n (upz f 0 (f n))) := by
    simpa using h2
  replace h3 := hide h3
  replace kp := kp.out
  refine ⟨h.bg, ?_, ?_, ?_, ?_, h3.out.elsewhere (by simp [Value.ownBlock]; exact hne) _, by simp [Value.ownBlock]; exact hne⟩
  · have := Nat.lt_of_lt_of_le h.lt kp.size; simpa using this
  · exact cu_set_off (kp.cu h.c0 hng) (by omega)
  · exact World.cell?_setCell_same _ _ _ (kp.cu h.c1 hng)
  · exact fu_set ((kp.frozen (p := ⟨g, 1, none⟩) h.lt hng).trans h.f1)
/-- what Pop hands back and keeps -/
def Popped (w : World) (base g gs c : Nat) (lf : Value) (n : Nat) (f : Nat → P2) (p : P2) (e : Ending) (w' : World) : Prop :=
  e = .returned (.agg #[.int .i64 p.a, .int .i64 p.b]) ∧ HeapAt w' base g lf (.slice (some ⟨gs, 0, none⟩) n c) n f ∧ Keep (fun k => k = g ∨ k = gs) w w'
/-- what holds while Pop sifts down -/
structure PopI (w : World) (base g gs c : Nat) (lf : Value) (n : Nat) (f : Nat → P2) (p : P2) (wr : World) : Prop where
  at' : HeapAt wr base g lf (.slice (some ⟨gs, 0, none⟩) n c) n f
  keep : Keep (fun k => k = g ∨ k = gs) w wr
  oa : wr.cell? ⟨w.heap.size + 1, 0, none⟩ = some (.int .i64 p.a)
  ob : wr.cell? ⟨w.heap.size + 1, 1, none⟩ = some (.int .i64 p.b)
  ra : wr.cell? ⟨w.heap.size, 0, none⟩ = some (.int .i64 0)
  rb : wr.cell? ⟨w.heap.size, 1, none⟩ = some (.int .i64 0)
  fa : wr.frozen? ⟨w.heap.size, 0, none⟩ = false
  fb : wr.frozen? ⟨w.heap.size, 1, none⟩ = false
  old : gs < w.heap.size
theorem PopI.lt {w : World} {base g gs c n : Nat} {lf : Value} {f : Nat → P2} {p : P2} {wr : World} (h : PopI w base g gs c lf n f p wr) : w.heap.size + 1 < wr.heap.size := cell_lt h.oa
theorem PopI.stays {w : World} {base g gs c n : Nat} {lf : Value} {f : Nat → P2} {p : P2} {wr w' : World} (h : PopI w base g gs c lf n f p wr) (k : Below wr.heap.size wr w') : PopI w base g gs c lf n f p w' :=
  have hl := h.lt
  ⟨h.at'.stays k, h.keep.trans (Keep.new k), cu_below k h.oa hl, cu_below k h.ob hl, cu_below k h.ra (by simp; omega), cu_below k h.rb (by simp; omega), fu_below k h.fa (by simp; omega), fu_below k h.fb (by simp; omega), h.old⟩
theorem PopI.drew {w : World} {base g gs c n : Nat} {lf : Value} {f : Nat → P2} {p : P2} {wr : World} (h : PopI w base g gs c lf n f p wr) : PopI w base g gs c lf n f p wr.drew := h.stays (below_drew _)
theorem PopI.drewN {w : World} {base g gs c n : Nat} {lf : Value} {f : Nat → P2} {p : P2} {wr : World} (h : PopI w base g gs c lf n f p wr) (m : Nat) : PopI w base g gs c lf n f p (wr.drewN m) := by
  induction m with
  | zero => exact h
  | succ m ih => exact ih.drew
theorem PopI.swap {w : World} {base g gs c n : Nat} {lf : Value} {f : Nat → P2} {p : P2} {wr : World} (h : PopI w base g gs c lf n f p wr) {i k : Nat} (hi : i < n) (hk : k < n) :
    PopI w base g gs c lf n (swf f i k) p ((((wr.setCell ⟨gs, i * 2, none⟩ (.int .i64 (f k).a)).setCell ⟨gs, i * 2 + 1, none⟩ (.int .i64 (f k).b)).setCell ⟨gs, k * 2, none⟩ (.int .i64 (f i).a)).setCell ⟨gs, k * 2 + 1, none⟩ (.int .i64 (f i).b)) := by
  have ho := h.old
  have hs : ∀ {b o : Nat} {v u : Value} {wx : World} {q : Nat}, w.heap.size ≤ b → wx.cell? ⟨b, o, none⟩ = some v → (wx.setCell ⟨gs, q, none⟩ u).cell? ⟨b, o, none⟩ = some v := fun hb hc => cu_set hc (by simp; omega)
  have hn : (fun k => k = g ∨ k = gs) gs ∨ w.heap.size ≤ gs := .inl (.inr rfl)
  exact ⟨h.at'.swap hi hk, (((h.keep.setCell (p := ⟨gs, i * 2, none⟩) hn _).setCell (p := ⟨gs, i * 2 + 1, none⟩) hn _).setCell (p := ⟨gs, k * 2, none⟩) hn _).setCell (p := ⟨gs, k * 2 + 1, none⟩) hn _,
    hs (by omega) (hs (by omega) (hs (by omega) (hs (by omega) h.oa))), hs (by omega) (hs (by omega) (hs (by omega) (hs (by omega) h.ob))), hs (by omega) (hs (by omega) (hs (by omega) (hs (by omega) h.ra))), hs (by omega) (hs (by omega) (hs (by omega) (hs (by omega) h.rb))),
    fu_set (fu_set (fu_set (fu_set h.fa))), fu_set (fu_set (fu_set (fu_set h.fb))), ho⟩
theorem PopI.start {w : World} {base g gs c n : Nat} {lf : Value} {f : Nat → P2} (h : HeapAt w base g lf (.slice (some ⟨gs, 0, none⟩) (n + 1) c) (n + 1) f) (p : P2) {t1 t2 : TypeId} :
    PopI w base g gs c lf n (upz f 0 (f n)) p (((((w.setCell ⟨gs, 0, none⟩ (.int .i64 (f n).a)).setCell ⟨gs, 1, none⟩ (.int .i64 (f n).b)).setCell ⟨g, 1, none⟩ (.slice (some ⟨gs, 0, none⟩) n c)).alloc (.cells #[.int .i64 0, .int .i64 0] t1)).alloc (.cells #[.int .i64 p.a, .int .i64 p.b] t2)).drew := by
  have hg := h.lt
  have hgs := h.own.at_base
  have h2 := (h.lastFirst.alloc (.cells #[.int .i64 0, .int .i64 0] t1)).alloc (.cells #[.int .i64 p.a, .int .i64 p.b] t2)
  have hk : Keep (fun k => k = g ∨ k = gs) w (((w.setCell ⟨gs, 0, none⟩ (.int .i64 (f n).a)).setCell ⟨gs, 1, none⟩ (.int .i64 (f n).b)).setCell ⟨g, 1, none⟩ (.slice (some ⟨gs, 0, none⟩) n c)) :=
    (((Keep.refl _ w).setCell (p := ⟨gs, 0, none⟩) (.inl (.inr rfl)) _).setCell (p := ⟨gs, 1, none⟩) (.inl (.inr rfl)) _).setCell (p := ⟨g, 1, none⟩) (.inl (.inl rfl)) _
  have hz : (((w.setCell ⟨gs, 0, none⟩ (.int .i64 (f n).a)).setCell ⟨gs, 1, none⟩ (.int .i64 (f n).b)).setCell ⟨g, 1, none⟩ (.slice (some ⟨gs, 0, none⟩) n c)).heap.size = w.heap.size := by simp
  generalize (((w.setCell ⟨gs, 0, none⟩ (.int .i64 (f n).a)).setCell ⟨gs, 1, none⟩ (.int .i64 (f n).b)).setCell ⟨g, 1, none⟩ (.slice (some ⟨gs, 0, none⟩) n c)) = W at h2 hk hz ⊢
  refine ⟨h2.drew, ?_, ?_, ?_, ?_, ?_, ?_, ?_, hgs.2⟩
  · exact ((hk.alloc _).alloc _).drew
  all_goals rw [← hz]
  · exact cu_drew (by simp [go_sem])
  · exact cu_drew (by simp [go_sem])
  · exact cu_drew (cu_alloc (by simp [go_sem]))
  · exact cu_drew (cu_alloc (by simp [go_sem]))
  · exact fu_drew (fu_alloc (by simp [go_sem]))
  · exact fu_drew (fu_alloc (by simp [go_sem]))
/-- the result stored -/
theorem PopI.done {w : World} {base g gs c n : Nat} {lf : Value} {f : Nat → P2} {p : P2} {wr : World} (h : PopI w base g gs c lf n f p wr) :
    HeapAt ((wr.setCell ⟨w.heap.size, 0, none⟩ (.int .i64 p.a)).setCell ⟨w.heap.size, 1, none⟩ (.int .i64 p.b)) base g lf (.slice (some ⟨gs, 0, none⟩) n c) n f ∧
    Keep (fun k => k = g ∨ k = gs) w ((wr.setCell ⟨w.heap.size, 0, none⟩ (.int .i64 p.a)).setCell ⟨w.heap.size, 1, none⟩ (.int .i64 p.b)) := by
  have ho := h.old
  have kp := ((Keep.refl (fun k => k = w.heap.size) wr).setCell (p := ⟨w.heap.size, 0, none⟩) (.inl rfl) (.int .i64 p.a)).setCell (p := ⟨w.heap.size, 1, none⟩) (.inl rfl) (.int .i64 p.b)
  refine ⟨h.at'.keep kp ?_ (fun k hk => ?_), (h.keep.setCell (.inr (Nat.le_refl _)) _).setCell (.inr (Nat.le_refl _)) _⟩
  · intro e
    have h1 := h.ra
    have h2 := h.at'.c1
    have h3 := h.ob
    have h4 := h.rb
    rw [e] at h2
    rw [h4] at h2
    cases h2
  · simp [Value.ownBlock] at hk
    omega
set_option maxRecDepth 100000 in
set_option maxHeartbeats 4000000 in
theorem pop_any (base g n gs c0 : Nat) (f : Nat → P2) (w : World) (hH : HeapAt w base g (.func (.func 168) #[] #[]) (.slice (some ⟨gs, 0, none⟩) (n + 1) c0) (n + 1) f) (hn : n ≤ 1000000) :
    Calls Try.prog 171 #[.pointer (some ⟨g, 0, none⟩)] w (Popped w base g gs c0 (.func (.func 168) #[] #[]) n (siftDown popLt n (upz f 0 (f n)) 0) (f 0)) := by
  have hg := hH.lt
  have hbg := hH.bg
  have hgs := hH.own.at_base
  have hne : gs ≠ g := fun e => hH.ap (by rw [e]; rfl)
  have hne2 : g ≠ gs := fun e => hne e.symm
  have k0 := hH.c0
  have k1 := hH.c1
  have f1 := hH.f1
  obtain ⟨ca, cb⟩ := hH.cells 0 (by omega)
  obtain ⟨da, db⟩ := hH.cells n (by omega)
  have fa := hH.frees 0
  have fb := hH.frees (0 + 1)
  simp only [Nat.zero_mul] at ca cb
  have icap : n ≤ c0 := by
    rcases hH.own.2 with ⟨h1, _⟩ | ⟨g', cap, cur, h1, h2, h3, h4, h5, h6, h7⟩
    · cases h1
    · simp only [Value.slice.injEq] at h1
      obtain ⟨_, _, rfl⟩ := h1
      rw [rw_len] at h4
      omega
  go_enter Try.func171, Try.ntmps171
  have hH' := hide hH
  clear hH
  have in0 : (0 : Int) ≤ (n : Int) ∧ (n : Int) < (n : Int) + 1 := by omega
  have hI := hide (PopI.start hH'.out (f 0) (t1 := 205) (t2 := 205))
  go_wp2
  go_region
  go_wp2_with fail
  generalize (((((w.setCell ⟨gs, 0, none⟩ (.int .i64 (f n).a)).setCell ⟨gs, 1, none⟩ (.int .i64 (f n).b)).setCell ⟨g, 1, none⟩ (.slice (some ⟨gs, 0, none⟩) n c0)).alloc (.cells #[.int .i64 0, .int .i64 0] 205)).alloc (.cells #[.int .i64 (f 0).a, .int .i64 (f 0).b] 205)).drew = W1 at hI ⊢
  clear k0 k1 f1 da db fa fb ca cb hH' in0 icap
  go_loopw [5] (fun i wr => ∃ (k : Nat) (f' : Nat → P2), (k < n ∨ k = 0) ∧ i = .int .i64 k ∧ Hid (PopI w base g gs c0 (.func (.func 168) #[] #[]) n f' (f 0) wr) ∧ Hid (siftDown popLt n f' k = siftDown popLt n (upz f 0 (f n)) 0)) (fun i _ => n - (intOf i).toNat)
  case atStart => exact ⟨0, _, by omega, rfl, hI, rfl⟩
  case round =>
    obtain ⟨i, f', hk, rfl, hI, hS⟩ := hrel
    have hi6 : i ≤ 1000000 := by omega
    by_cases hlt : 2 * i + 1 < n
    · obtain ⟨m, hm⟩ : ∃ m, m = 2 * i + 1 := ⟨_, rfl⟩
      have hq := hide (show 2 * (i : Int) + 1 = (m : Int) by omega)
      have hm' := hide hm
      have hmn : m < n := by omega
      have hmn2 : (m : Int) < (n : Int) := by omega
      have hkd := hide (kid_is (lt := popLt) n f' i hlt)
      obtain ⟨ma, mb⟩ := hI.out.at'.cells m hmn
      have k0 := hI.out.at'.c0
      have k1 := hI.out.at'.c1
      have hgl := hI.out.at'.lt
      have hgsl := hI.out.at'.own.at_base.2
      by_cases hlt2 : m + 1 < n
      · obtain ⟨na, nb⟩ := hI.out.at'.cells (m + 1) hlt2
        have im1 : IntKind.i64.wrap ((m : Int) + 1) = (m : Int) + 1 := IntWalk.i64_in _ (by omega)
        have im2 : (0 : Int) ≤ (m : Int) + 1 ∧ (m : Int) + 1 < (n : Int) := by omega
        have im3 : ((m : Int) + 1).toNat = m + 1 := by omega
        have im4 : decide ((m : Int) + 1 < (n : Int)) = true := by simp; omega
        have hC0 := hide (less_any (f' (m + 1)) (f' m))
        obtain ⟨b, hb⟩ : ∃ b, b = popLt (f' (m + 1)) (f' m) := ⟨_, rfl⟩
        rw [← hb] at hC0
        replace hb := hide hb
        have key := hide (show ∀ w', Below wr.heap.size wr w' → (Below wr.heap.size wr w' ∧ w'.cell? ⟨g, 0, none⟩ = some (.func (.func 168) #[] #[]) ∧ w'.cell? ⟨g, 1, none⟩ = some (.slice (some ⟨gs, 0, none⟩) n c0) ∧ w'.cell? ⟨gs, m * 2, none⟩ = some (.int .i64 (f' m).a) ∧ w'.cell? ⟨gs, m * 2 + 1, none⟩ = some (.int .i64 (f' m).b) ∧ w'.cell? ⟨gs, (m + 1) * 2, none⟩ = some (.int .i64 (f' (m + 1)).a) ∧ w'.cell? ⟨gs, (m + 1) * 2 + 1, none⟩ = some (.int .i64 (f' (m + 1)).b)) from
          fun w' hb => ⟨hb, cu_below hb k0 hgl, cu_below hb k1 hgl, cu_below hb ma hgsl, cu_below hb mb hgsl, cu_below hb na hgsl, cu_below hb nb hgsl⟩)
        replace im1 := hide im1
        replace im3 := hide im3
        clear hm
        go_wp2
        replace hq := hq.out
        simp only [hq]
        clear hq
        replace im1 := im1.out
        replace im3 := im3.out
        go_region_held3 (fun w' => Below wr.heap.size wr w' ∧ w'.cell? ⟨g, 0, none⟩ = some (.func (.func 168) #[] #[]) ∧ w'.cell? ⟨g, 1, none⟩ = some (.slice (some ⟨gs, 0, none⟩) n c0) ∧ w'.cell? ⟨gs, m * 2, none⟩ = some (.int .i64 (f' m).a) ∧ w'.cell? ⟨gs, m * 2 + 1, none⟩ = some (.int .i64 (f' m).b) ∧ w'.cell? ⟨gs, (m + 1) * 2, none⟩ = some (.int .i64 (f' (m + 1)).a) ∧ w'.cell? ⟨gs, (m + 1) * 2 + 1, none⟩ = some (.int .i64 (f' (m + 1)).b))
          (first | exact key.out _ (below_drew _) | exact key.out _ (by assumption))
          (first | (go_at_call 168; refine (hC0.out _).mono ?_; rintro e w4 ⟨rfl, hb5⟩; have hb6 := below_step (‹Below wr.heap.size wr _ ∧ _› : _ ∧ _).1 hb5))
        have hI4 := hide (hI.out.stays (‹Below wr.heap.size wr w4 ∧ _› : _ ∧ _).1)
        obtain ⟨wq, rfl⟩ : ∃ wq : World, wq = w4 := ⟨_, rfl⟩
        clear key hC0 hb5 hb6 ma mb na nb k0 k1 hgl hgsl im1 im3 im4
        cases b
        · have hkid := hide (show m = kid popLt n f' i by unfold kid; rw [← hm'.out, if_neg (by rw [← hb.out]; simp)])
          obtain ⟨k, rfl⟩ : ∃ k, k = m := ⟨_, rfl⟩
          have hkn := hmn
          have hik : i < k := by have := hm'.out; omega
          clear im2
          go_wp2
          obtain ⟨ka, kb⟩ := hI4.out.at'.cells k hkn
          obtain ⟨ia, ib⟩ := hI4.out.at'.cells i (by omega)
          have k0 := hI4.out.at'.c0
          have k1 := hI4.out.at'.c1
          have hgl := hI4.out.at'.lt
          have hgsl := hI4.out.at'.own.at_base.2
          have ik : (0 : Int) ≤ (k : Int) ∧ (k : Int) < (n : Int) := by omega
          have ii : (0 : Int) ≤ (i : Int) ∧ (i : Int) < (n : Int) := by omega
          have hC0 := hide (less_any (f' k) (f' i))
          obtain ⟨b2, hb2⟩ : ∃ b, b = popLt (f' k) (f' i) := ⟨_, rfl⟩
          rw [← hb2] at hC0
          replace hb2 := hide hb2
          have key := hide (show ∀ w', Below wq.heap.size wq w' → (Below wq.heap.size wq w' ∧ w'.cell? ⟨g, 0, none⟩ = some (.func (.func 168) #[] #[]) ∧ w'.cell? ⟨g, 1, none⟩ = some (.slice (some ⟨gs, 0, none⟩) n c0) ∧ w'.cell? ⟨gs, k * 2, none⟩ = some (.int .i64 (f' k).a) ∧ w'.cell? ⟨gs, k * 2 + 1, none⟩ = some (.int .i64 (f' k).b) ∧ w'.cell? ⟨gs, i * 2, none⟩ = some (.int .i64 (f' i).a) ∧ w'.cell? ⟨gs, i * 2 + 1, none⟩ = some (.int .i64 (f' i).b)) from
            fun w' hb => ⟨hb, cu_below hb k0 hgl, cu_below hb k1 hgl, cu_below hb ka hgsl, cu_below hb kb hgsl, cu_below hb ia hgsl, cu_below hb ib hgsl⟩)
          go_region_held3 (fun w' => Below wq.heap.size wq w' ∧ w'.cell? ⟨g, 0, none⟩ = some (.func (.func 168) #[] #[]) ∧ w'.cell? ⟨g, 1, none⟩ = some (.slice (some ⟨gs, 0, none⟩) n c0) ∧ w'.cell? ⟨gs, k * 2, none⟩ = some (.int .i64 (f' k).a) ∧ w'.cell? ⟨gs, k * 2 + 1, none⟩ = some (.int .i64 (f' k).b) ∧ w'.cell? ⟨gs, i * 2, none⟩ = some (.int .i64 (f' i).a) ∧ w'.cell? ⟨gs, i * 2 + 1, none⟩ = some (.int .i64 (f' i).b))
            (first | exact key.out _ (below_drew _) | exact key.out _ (by assumption))
            (first | (go_at_call 168; refine (hC0.out _).mono ?_; rintro e w5 ⟨rfl, hb5⟩; have hb6 := below_step (‹Below wq.heap.size wq _ ∧ _› : _ ∧ _).1 hb5))
          have hI5 := hide (hI4.out.stays (‹Below wq.heap.size wq w5 ∧ _› : _ ∧ _).1)
          clear key hC0 hb5 hb6 ka kb ia ib k0 k1 hI4 hgl hgsl
          cases b2
          · have hoa := hI5.out.oa
            have hob := hI5.out.ob
            have hra := hI5.out.ra
            have hrb := hI5.out.rb
            have hfa := hI5.out.fa
            have hfb := hI5.out.fb
            have hz := hI5.out.lt
            have hD := hide hI5.out.done
            go_wp2
            refine bodyPost_ret (v := .agg #[.int .i64 (f 0).a, .int .i64 (f 0).b]) (by simp [results, Try.results171, go_sem, hra, hrb, hz]) rfl ⟨rfl, ?_, hD.out.2⟩
            rw [← hS.out, siftDown_stop hlt (by rw [← hkid.out]; exact hb2.out.symm)]
            exact hD.out.1
          · obtain ⟨ka, kb⟩ := hI5.out.at'.cells k hkn
            obtain ⟨ia, ib⟩ := hI5.out.at'.cells i (by omega)
            have k0 := hI5.out.at'.c0
            have k1 := hI5.out.at'.c1
            have hgl := hI5.out.at'.lt
            have hgsl := hI5.out.at'.own.at_base.2
            have ffk := hI5.out.at'.frees (k * 2)
            have ffk1 := hI5.out.at'.frees (k * 2 + 1)
            have ffi := hI5.out.at'.frees (i * 2)
            have ffi1 := hI5.out.at'.frees (i * 2 + 1)
            go_wp2
            go_region
            go_wp2
            have hsw := hide (hI5.out.swap (show i < n by omega) hkn)
            have hgo := siftDown_go (lt := popLt) (n := n) (f := f') (i := i) hlt (by rw [← hkid.out]; exact hb2.out.symm)
            rw [← hkid.out] at hgo
            replace hgo := hide hgo
            go_roundw
            case rel =>
              refine ⟨k, swf f' i k, by omega, by go_num, hide ?_, hide ?_⟩
              · first | exact hsw.out.drew | exact hsw.out.drewN _
              · rw [← hS.out]; exact hgo.out.symm
            case measure => simp [intOf]; omega
        · obtain ⟨k, hk1⟩ : ∃ k, k = m + 1 := ⟨_, rfl⟩
          have hkid := hide (show k = kid popLt n f' i by unfold kid; rw [← hm'.out, if_pos ⟨hlt2, by rw [← hb.out]⟩, hk1])
          have hkn : k < n := by omega
          have hik : i < k := by have := hm'.out; omega
          have hq2 := hide (show (m : Int) + 1 = (k : Int) by omega)
          replace hk1 := hide hk1
          go_wp2
          simp only [hq2.out]
          obtain ⟨ka, kb⟩ := hI4.out.at'.cells k hkn
          obtain ⟨ia, ib⟩ := hI4.out.at'.cells i (by omega)
          have k0 := hI4.out.at'.c0
          have k1 := hI4.out.at'.c1
          have hgl := hI4.out.at'.lt
          have hgsl := hI4.out.at'.own.at_base.2
          have ik : (0 : Int) ≤ (k : Int) ∧ (k : Int) < (n : Int) := by omega
          have ii : (0 : Int) ≤ (i : Int) ∧ (i : Int) < (n : Int) := by omega
          have hC0 := hide (less_any (f' k) (f' i))
          obtain ⟨b2, hb2⟩ : ∃ b, b = popLt (f' k) (f' i) := ⟨_, rfl⟩
          rw [← hb2] at hC0
          replace hb2 := hide hb2
          have key := hide (show ∀ w', Below wq.heap.size wq w' → (Below wq.heap.size wq w' ∧ w'.cell? ⟨g, 0, none⟩ = some (.func (.func 168) #[] #[]) ∧ w'.cell? ⟨g, 1, none⟩ = some (.slice (some ⟨gs, 0, none⟩) n c0) ∧ w'.cell? ⟨gs, k * 2, none⟩ = some (.int .i64 (f' k).a) ∧ w'.cell? ⟨gs, k * 2 + 1, none⟩ = some (.int .i64 (f' k).b) ∧ w'.cell? ⟨gs, i * 2, none⟩ = some (.int .i64 (f' i).a) ∧ w'.cell? ⟨gs, i * 2 + 1, none⟩ = some (.int .i64 (f' i).b)) from
            fun w' hb => ⟨hb, cu_below hb k0 hgl, cu_below hb k1 hgl, cu_below hb ka hgsl, cu_below hb kb hgsl, cu_below hb ia hgsl, cu_below hb ib hgsl⟩)
          go_region_held3 (fun w' => Below wq.heap.size wq w' ∧ w'.cell? ⟨g, 0, none⟩ = some (.func (.func 168) #[] #[]) ∧ w'.cell? ⟨g, 1, none⟩ = some (.slice (some ⟨gs, 0, none⟩) n c0) ∧ w'.cell? ⟨gs, k * 2, none⟩ = some (.int .i64 (f' k).a) ∧ w'.cell? ⟨gs, k * 2 + 1, none⟩ = some (.int .i64 (f' k).b) ∧ w'.cell? ⟨gs, i * 2, none⟩ = some (.int .i64 (f' i).a) ∧ w'.cell? ⟨gs, i * 2 + 1, none⟩ = some (.int .i64 (f' i).b))
            (first | exact key.out _ (below_drew _) | exact key.out _ (by assumption))
            (first | (go_at_call 168; refine (hC0.out _).mono ?_; rintro e w5 ⟨rfl, hb5⟩; have hb6 := below_step (‹Below wq.heap.size wq _ ∧ _› : _ ∧ _).1 hb5))
          have hI5 := hide (hI4.out.stays (‹Below wq.heap.size wq w5 ∧ _› : _ ∧ _).1)
          clear key hC0 hb5 hb6 ka kb ia ib k0 k1 hI4 hgl hgsl
          cases b2
          · have hoa := hI5.out.oa
            have hob := hI5.out.ob
            have hra := hI5.out.ra
            have hrb := hI5.out.rb
            have hfa := hI5.out.fa
            have hfb := hI5.out.fb
            have hz := hI5.out.lt
            have hD := hide hI5.out.done
            go_wp2
            refine bodyPost_ret (v := .agg #[.int .i64 (f 0).a, .int .i64 (f 0).b]) (by simp [results, Try.results171, go_sem, hra, hrb, hz]) rfl ⟨rfl, ?_, hD.out.2⟩
            rw [← hS.out, siftDown_stop hlt (by rw [← hkid.out]; exact hb2.out.symm)]
            exact hD.out.1
          · obtain ⟨ka, kb⟩ := hI5.out.at'.cells k hkn
            obtain ⟨ia, ib⟩ := hI5.out.at'.cells i (by omega)
            have k0 := hI5.out.at'.c0
            have k1 := hI5.out.at'.c1
            have hgl := hI5.out.at'.lt
            have hgsl := hI5.out.at'.own.at_base.2
            have ffk := hI5.out.at'.frees (k * 2)
            have ffk1 := hI5.out.at'.frees (k * 2 + 1)
            have ffi := hI5.out.at'.frees (i * 2)
            have ffi1 := hI5.out.at'.frees (i * 2 + 1)
            go_wp2
            go_region
            go_wp2
            have hsw := hide (hI5.out.swap (show i < n by omega) hkn)
            have hgo := siftDown_go (lt := popLt) (n := n) (f := f') (i := i) hlt (by rw [← hkid.out]; exact hb2.out.symm)
            rw [← hkid.out] at hgo
            replace hgo := hide hgo
            go_roundw
            case rel =>
              refine ⟨k, swf f' i k, by omega, by go_num, hide ?_, hide ?_⟩
              · first | exact hsw.out.drew | exact hsw.out.drewN _
              · rw [← hS.out]; exact hgo.out.symm
            case measure => simp [intOf]; omega
      · have hkid := hide (show m = kid popLt n f' i by unfold kid; rw [← hm'.out, if_neg (by omega)])
        obtain ⟨k, rfl⟩ : ∃ k, k = m := ⟨_, rfl⟩
        have hkn := hmn
        have hik : i < k := by have := hm'.out; omega
        have im1 := hide (show IntKind.i64.wrap ((k : Int) + 1) = (k : Int) + 1 from IntWalk.i64_in _ (by omega))
        have im4 := hide (show decide ((k : Int) + 1 < (n : Int)) = false by simp; omega)
        clear hm
        go_wp2
        replace hq := hq.out
        simp only [hq]
        clear hq
        replace im1 := im1.out
        replace im4 := im4.out
        go_quiet (fail)
        clear im1 im4 ma mb k0 k1 hgl hgsl
        have hI4 := hide (hI.out.drewN nq)
        generalize wr.drewN nq = wq at hI4 ⊢
        go_wp2
        obtain ⟨ka, kb⟩ := hI4.out.at'.cells k hkn
        obtain ⟨ia, ib⟩ := hI4.out.at'.cells i (by omega)
        have k0 := hI4.out.at'.c0
        have k1 := hI4.out.at'.c1
        have hgl := hI4.out.at'.lt
        have hgsl := hI4.out.at'.own.at_base.2
        have ik : (0 : Int) ≤ (k : Int) ∧ (k : Int) < (n : Int) := by omega
        have ii : (0 : Int) ≤ (i : Int) ∧ (i : Int) < (n : Int) := by omega
        have hC0 := hide (less_any (f' k) (f' i))
        obtain ⟨b2, hb2⟩ : ∃ b, b = popLt (f' k) (f' i) := ⟨_, rfl⟩
        rw [← hb2] at hC0
        replace hb2 := hide hb2
        have key := hide (show ∀ w', Below wq.heap.size wq w' → (Below wq.heap.size wq w' ∧ w'.cell? ⟨g, 0, none⟩ = some (.func (.func 168) #[] #[]) ∧ w'.cell? ⟨g, 1, none⟩ = some (.slice (some ⟨gs, 0, none⟩) n c0) ∧ w'.cell? ⟨gs, k * 2, none⟩ = some (.int .i64 (f' k).a) ∧ w'.cell? ⟨gs, k * 2 + 1, none⟩ = some (.int .i64 (f' k).b) ∧ w'.cell? ⟨gs, i * 2, none⟩ = some (.int .i64 (f' i).a) ∧ w'.cell? ⟨gs, i * 2 + 1, none⟩ = some (.int .i64 (f' i).b)) from
          fun w' hb => ⟨hb, cu_below hb k0 hgl, cu_below hb k1 hgl, cu_below hb ka hgsl, cu_below hb kb hgsl, cu_below hb ia hgsl, cu_below hb ib hgsl⟩)
        go_region_held3 (fun w' => Below wq.heap.size wq w' ∧ w'.cell? ⟨g, 0, none⟩ = some (.func (.func 168) #[] #[]) ∧ w'.cell? ⟨g, 1, none⟩ = some (.slice (some ⟨gs, 0, none⟩) n c0) ∧ w'.cell? ⟨gs, k * 2, none⟩ = some (.int .i64 (f' k).a) ∧ w'.cell? ⟨gs, k * 2 + 1, none⟩ = some (.int .i64 (f' k).b) ∧ w'.cell? ⟨gs, i * 2, none⟩ = some (.int .i64 (f' i).a) ∧ w'.cell? ⟨gs, i * 2 + 1, none⟩ = some (.int .i64 (f' i).b))
          (first | exact key.out _ (below_drew _) | exact key.out _ (by assumption))
          (first | (go_at_call 168; refine (hC0.out _).mono ?_; rintro e w5 ⟨rfl, hb5⟩; have hb6 := below_step (‹Below wq.heap.size wq _ ∧ _› : _ ∧ _).1 hb5))
        have hI5 := hide (hI4.out.stays (‹Below wq.heap.size wq w5 ∧ _› : _ ∧ _).1)
        clear key hC0 hb5 hb6 ka kb ia ib k0 k1 hI4 hgl hgsl
        cases b2
        · have hoa := hI5.out.oa
          have hob := hI5.out.ob
          have hra := hI5.out.ra
          have hrb := hI5.out.rb
          have hfa := hI5.out.fa
          have hfb := hI5.out.fb
          have hz := hI5.out.lt
          have hD := hide hI5.out.done
          go_wp2
          refine bodyPost_ret (v := .agg #[.int .i64 (f 0).a, .int .i64 (f 0).b]) (by simp [results, Try.results171, go_sem, hra, hrb, hz]) rfl ⟨rfl, ?_, hD.out.2⟩
          rw [← hS.out, siftDown_stop hlt (by rw [← hkid.out]; exact hb2.out.symm)]
          exact hD.out.1
        · obtain ⟨ka, kb⟩ := hI5.out.at'.cells k hkn
          obtain ⟨ia, ib⟩ := hI5.out.at'.cells i (by omega)
          have k0 := hI5.out.at'.c0
          have k1 := hI5.out.at'.c1
          have hgl := hI5.out.at'.lt
          have hgsl := hI5.out.at'.own.at_base.2
          have ffk := hI5.out.at'.frees (k * 2)
          have ffk1 := hI5.out.at'.frees (k * 2 + 1)
          have ffi := hI5.out.at'.frees (i * 2)
          have ffi1 := hI5.out.at'.frees (i * 2 + 1)
          go_wp2
          go_region
          go_wp2
          have hsw := hide (hI5.out.swap (show i < n by omega) hkn)
          have hgo := siftDown_go (lt := popLt) (n := n) (f := f') (i := i) hlt (by rw [← hkid.out]; exact hb2.out.symm)
          rw [← hkid.out] at hgo
          replace hgo := hide hgo
          go_roundw
          case rel =>
            refine ⟨k, swf f' i k, by omega, by go_num, hide ?_, hide ?_⟩
            · first | exact hsw.out.drew | exact hsw.out.drewN _
            · rw [← hS.out]; exact hgo.out.symm
          case measure => simp [intOf]; omega
    · have hoa := hI.out.oa
      have hob := hI.out.ob
      have hra := hI.out.ra
      have hrb := hI.out.rb
      have hfa := hI.out.fa
      have hfb := hI.out.fb
      have hz := hI.out.lt
      have hD := hide hI.out.done
      go_wp2
      refine bodyPost_ret (v := .agg #[.int .i64 (f 0).a, .int .i64 (f 0).b]) (by simp [results, Try.results171, go_sem, hra, hrb, hz]) rfl ⟨rfl, ?_, hD.out.2⟩
      rw [← hS.out, siftDown_end hlt]
      exact hD.out.1
end Go.Proofs.Ytcehdpeeaogpiaa
