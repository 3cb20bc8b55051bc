/-
  What the reference's Table returns. Conditions: the table reads, not too many rows.
-/
import Derived.Test.YtdpbkhempgghaaaRTab
namespace Go.Proofs.Ytdpbkhempgghaaa
open Go.RowKit
set_option linter.unusedSimpArgs false
set_option linter.unusedVariables false
theorem okTab_any {n : Nat} {fs ts : List SR} (h1 : fs.length = ts.length) (h2 : fs.length ≤ 4) : okTab n fs ts = !(((fs ++ ts).map fun s => !okRow n s.xs).any id) := by
  have key : ∀ l : List SR, (l.all fun s => okRow n s.xs) = !((l.map fun s => !okRow n s.xs).any id) := by
    intro l
    induction l with
    | nil => rfl
    | cons s r ih => simp only [List.all_cons, List.map_cons, List.any_cons, ih, id]; cases okRow n s.xs <;> simp
  rw [← key, List.all_append]
  simp [okTab, h1, show ts.length ≤ 4 by omega]
set_option maxRecDepth 100000 in
set_option maxHeartbeats 2000000 in
theorem rtable_any (n : Nat) (a b : Option Addr) (ca cb : Nat) (fs ts : List SR) (w : World) (B : Nat) (hB : B ≤ w.heap.size) (h1 : Row encR 1 w B a fs) (h2 : Row encR 1 w B b ts) (q1 : ∀ s ∈ fs, QR w B s) (q2 : ∀ s ∈ ts, QR w B s) (lf : fs.length ≤ 1048576) (lt : ts.length ≤ 1048576) (hn : 1 ≤ n) (hn2 : n ≤ 64) :
    Calls Try.prog 29 #[.agg #[.slice a fs.length ca, .slice b ts.length cb], .int .i64 (n : Int)] w fun e w' => e = .returned (.bool (okTab n fs ts)) ∧ Below w.heap.size w w' := by
  obtain ⟨nf, hnf⟩ : ∃ nf, nf = fs.length := ⟨_, rfl⟩
  obtain ⟨nt, hnt⟩ : ∃ nt, nt = ts.length := ⟨_, rfl⟩
  rw [← hnf] at lf ⊢
  rw [← hnt] at lt ⊢
  have hok := hide (show okTab n fs ts = (decide (nf = nt) && decide (nf ≤ 4) && (fs.all fun s => okRow n s.xs) && ts.all fun s => okRow n s.xs) by rw [hnf, hnt]; rfl)
  have hok2 := hide (show nf = nt → nf ≤ 4 → okTab n fs ts = !(((fs ++ ts).map fun s => !okRow n s.xs).any id) from fun e1 e2 => okTab_any (by omega) (by omega))
  replace hnf := hide hnf
  replace hnt := hide hnt
  replace h1 := hide h1
  replace h2 := hide h2
  replace q1 := hide q1
  replace q2 := hide q2
  go_enter Try.func29, Try.ntmps29
  go_wp2_with fail
  obtain ⟨w0, h0⟩ : ∃ w0, w0 = (w.alloc (.cells #[.slice a nf ca, .slice b nt cb] 54)).alloc (.cells #[.int .i64 (n : Int)] 3) := ⟨_, rfl⟩
  have hz0 : w0.heap.size = w.heap.size + 1 + 1 := by rw [h0]; simp
  have hb0 := hide (show Below w.heap.size w w0 by rw [h0]; exact up_alloc (up_alloc (Below.refl _ _) (Nat.le_refl _)) (by simp))
  have c0 : w0.cell? ⟨w.heap.size, 0, none⟩ = some (.slice a nf ca) := by rw [h0]; simp [go_sem]
  have c1 : w0.cell? ⟨w.heap.size, 1, none⟩ = some (.slice b nt cb) := by rw [h0]; simp [go_sem]
  have c2 : w0.cell? ⟨w.heap.size + 1, 0, none⟩ = some (.int .i64 (n : Int)) := by rw [h0]; simp [go_sem]
  simp only [← h0]
  have hza : w.heap.size + 1 + 1 = w0.heap.size := hz0.symm
  have hCc := hide (concatS_any 2 2 (some ⟨w0.heap.size, 0, none⟩) [⟨a, nf, ca⟩, ⟨b, nt, cb⟩] [fs.map toS3, ts.map toS3] (w0.alloc (.cells #[.slice a nf ca, .slice b nt cb] 33)) (w0.heap.size + 1) (by simp) rfl rfl (row_two3 w0 33 ⟨a, nf, ca⟩ ⟨b, nt, cb⟩) (fun i hi => by
    have hb' : Below w.heap.size w (w0.alloc (.cells #[.slice a nf ca, .slice b nt cb] 33)) := up_alloc hb0.out hb0.out.size
    have hi2 : i = 0 ∨ i = 1 := by omega
    rcases hi2 with rfl | rfl
    · exact ⟨by simp only [List.getElem_cons_zero, List.length_map]; exact hnf.out, (row_toS3 (h1.out.below hb' hB)).mono (by omega)⟩
    · exact ⟨by simp only [List.getElem_cons_succ, List.getElem_cons_zero, List.length_map]; exact hnt.out, (row_toS3 (h2.out.below hb' hB)).mono (by omega)⟩) (by omega) (by simp only [List.flatten_cons, List.flatten_nil, List.append_nil, List.length_append, List.length_map]; rw [← hnf.out, ← hnt.out]; omega))
  rw [hza]
  replace h0 := hide h0
  replace hz0 := hide hz0
  replace hza := hide hza
  refine hCc.out.mono ?_
  rintro e w1 ⟨v1, rfl, own1, hb1⟩
  rw [show [fs.map toS3, ts.map toS3].flatten = (fs ++ ts).map toS3 by simp] at own1
  obtain ⟨q, hq⟩ : ∃ q, q = (fs ++ ts).length := ⟨_, rfl⟩
  obtain ⟨a1, c1', rfl⟩ := own1.shape (n := q) (by rw [List.length_map, hq])
  have hq2 : q ≤ 100000000 := by rw [hq, List.length_append, ← hnf.out, ← hnt.out]; omega
  have hb1' : Below w0.heap.size w0 w1 := unalloc (hb1.mono (by simp)) (Nat.le_refl _)
  have hrow : Row encR 1 w1 w1.heap.size a1 (fs ++ ts) := by
    obtain ⟨a', c', hv', hr', _⟩ := own1.row lenS
    injection hv' with g1 g2 g3
    subst g1
    exact row_ofS3 hr'
  have hbw1 := hide (hb0.out.trans (hb1'.mono hb0.out.size))
  have k0 := cu_below hb1' c0 (by simp; have := hza.out; omega)
  have k1 := cu_below hb1' c1 (by simp; have := hza.out; omega)
  have k2 := cu_below hb1' c2 (by simp; have := hza.out; omega)
  have z0 := cell_lt k0
  have z2 := cell_lt k2
  have hqs : ∀ s ∈ fs ++ ts, QR w1 w1.heap.size s := fun s hs => by
    have hz := hbw1.out.size
    rcases List.mem_append.1 hs with hs | hs
    · exact ((q1.out s hs).below hbw1.out hB).mono (by omega)
    · exact ((q2.out s hs).below hbw1.out hB).mono (by omega)
  have hCf := hide (conr_any (w.heap.size + 1) n q c1' a1 (fs ++ ts) w1 w1.heap.size (Nat.le_refl _) hq.symm hrow hqs k2 hn hn2 hq2)
  replace hq := hide hq
  clear hrow hqs own1 hb1 hb1' c0 c1 c2 hCc
  by_cases e1 : nf = nt
  · have p1 : ((nf : Int) == (nt : Int)) = true := by simp [e1]
    by_cases e2 : nf ≤ 4
    · have p2 : decide ((nf : Int) ≤ 4) = true := by simp; omega
      have hfin := hide (hok2.out e1 e2)
      generalize (List.map (fun s => !okRow n s.xs) (fs ++ ts)).any id = t at hCf hfin
      clear e1
      go_wp2_with fail
      refine hCf.out.mono ?_
      rintro e w2 ⟨rfl, hb2⟩
      have hbw2 := hide (hbw1.out.trans (hb2.mono hbw1.out.size))
      go_wp2
      go_ret
      exact ⟨ret_bool hfin.out.symm, hbw2.out⟩
    · have p2 : decide ((nf : Int) ≤ 4) = false := by simp; omega
      have hfin := hide (show okTab n fs ts = false by rw [hok.out]; simp [e2])
      clear e1 e2
      go_wp2
      go_ret
      exact ⟨ret_bool hfin.out.symm, hbw1.out⟩
  · have p1 : ((nf : Int) == (nt : Int)) = false := by simp; omega
    have hfin := hide (show okTab n fs ts = false by rw [hok.out]; simp [e1])
    clear e1
    go_wp2
    go_ret
    exact ⟨ret_bool hfin.out.symm, hbw1.out⟩
end Go.Proofs.Ytdpbkhempgghaaa
