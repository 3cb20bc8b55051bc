/-
  The reference's KnotOrder. Conditions: a right net.
-/
import Derived.Test.YtcehdpeeaogpiaaRKnot
import Derived.Test.YtcehdpeeaogpiaaOrdK
namespace Go.Proofs.Ytcehdpeeaogpiaa
open Go.RowKit
set_option linter.unusedSimpArgs false
set_option linter.unusedVariables false
def kIdx (q : Ed → Bool) : List Ed → Nat → Int | [], _ => -1 | e :: r, k => if q e = true then (k : Int) else kIdx q r (k + 1)
theorem kIdx_hit {q : Ed → Bool} {es : List Ed} {k : Nat} (h : k < es.length) (hq : q es[k] = true) : kIdx q (es.drop k) k = (k : Int) := by
  rw [List.drop_eq_getElem_cons h, kIdx, if_pos hq]
theorem kIdx_miss {q : Ed → Bool} {es : List Ed} {k : Nat} (h : k < es.length) (hq : q es[k] = false) : kIdx q (es.drop k) k = kIdx q (es.drop (k + 1)) (k + 1) := by
  rw [List.drop_eq_getElem_cons h, kIdx, if_neg (by simp [hq])]
theorem kIdx_any {q : Ed → Bool} : ∀ (es : List Ed) (k : Nat), decide (0 ≤ kIdx q es k) = es.any q
  | [], k => by simp [kIdx]
  | e :: r, k => by
    rw [kIdx, List.any_cons]
    by_cases h : q e = true
    · rw [if_pos h, h]; simp
    · rw [if_neg h, kIdx_any r (k + 1)]
      have : q e = false := by simpa using h
      rw [this]; simp
def kq (K : Nat → Nat) (a b : Nat) (e : Ed) : Bool := decide (K e.u.toNat = a) && decide (K e.v.toNat = b)
theorem ldE_EK (es : List Ed) (K : Nat → Nat) (a b : Nat) : (decide (a ≠ b) && es.any (kq K a b)) = ldE (EK (nes es) K) a b := by
  rw [Bool.eq_iff_iff]
  unfold ldE
  simp only [Bool.and_eq_true, decide_eq_true_eq, List.any_eq_true, kq]
  constructor
  · rintro ⟨hne, e, he, h1, h2⟩
    exact ⟨⟨K e.u.toNat, K e.v.toNat, e.c⟩, ek_mem.2 ⟨⟨e.u.toNat, e.v.toNat, e.c⟩, List.mem_map.2 ⟨e, he, rfl⟩, by simp only [h1, h2]; exact hne, rfl⟩, h1, h2⟩
  · rintro ⟨e, he, h1, h2⟩
    obtain ⟨d, hd, hne, rfl⟩ := ek_mem.1 he
    obtain ⟨x, hx, rfl⟩ := List.mem_map.1 hd
    simp only at h1 h2 hne
    exact ⟨by rw [← h1, ← h2]; exact hne, x, hx, h1, h2⟩
theorem kk1_any (K : Nat → Nat) (n bo ba bb ck a b u v : Nat) (c : Int) (ak : Option Addr) (w : World) (k0 : w.cell? ⟨bo, 0, none⟩ = some (.slice ak n ck)) (hK : Row encI 1 w w.heap.size ak (LI n (ZI K))) (ka : w.cell? ⟨ba, 0, none⟩ = some (.int .i64 (a : Int))) (kb : w.cell? ⟨bb, 0, none⟩ = some (.int .i64 (b : Int))) (hu : u < n) (hv : v < n) (hn : n ≤ 64) :
    Calls Try.prog 106 #[.agg #[.int .i64 (u : Int), .int .i64 (v : Int), .int .i64 c], .pointer (some ⟨bo, 0, none⟩), .pointer (some ⟨ba, 0, none⟩), .pointer (some ⟨bb, 0, none⟩)] w fun e w' => e = .returned (.bool (decide (K u = a) && decide (K v = b))) ∧ Below w.heap.size w w' := by
  obtain ⟨b1, o1, rfl, h1, c1⟩ := hK.atI u hu
  obtain ⟨b2, o2, he, h2, c2⟩ := hK.atI v hv
  simp only [Option.some.injEq, Addr.mk.injEq] at he
  obtain ⟨rfl, rfl, -⟩ := he
  have zu : ZI K u = (K u : Int) := rfl
  have zv : ZI K v = (K v : Int) := rfl
  rw [zu] at c1
  rw [zv] at c2
  have iu : (0 : Int) ≤ (u : Int) ∧ (u : Int) < (n : Int) := by omega
  have iv : (0 : Int) ≤ (v : Int) ∧ (v : Int) < (n : Int) := by omega
  have l0 := cell_lt k0
  have la := cell_lt ka
  have lb := cell_lt kb
  simp only at l0 la lb
  clear hK zu zv
  by_cases hq : K u = a
  · have q1 : ((K u : Int) == (a : Int)) = true := by simp; omega
    by_cases hp : K v = b
    · have q2 : ((K v : Int) == (b : Int)) = true := by simp; omega
      have hr := hide (show true = (decide (K u = a) && decide (K v = b)) by simp [hq, hp])
      generalize (decide (K u = a) && decide (K v = b)) = r at hr ⊢
      generalize (K u : Int) = ku at c1 q1
      generalize (K v : Int) = kv at c2 q2
      clear hq hp
      go_enter Try.func106, Try.ntmps106
      go_wp2
      go_quiet (fail)
      go_wp2
      go_ret
      exact ⟨ret_bool hr.out, (by repeat (first | with_reducible exact Below.refl _ _ | with_reducible assumption | with_reducible refine up_drewN ?_ | with_reducible refine up_drew ?_ | (with_reducible refine up_alloc ?_ ?_; rotate_left; (first | omega | (simp <;> omega) | simp)) | (with_reducible refine up_set ?_ ?_; rotate_left; (first | omega | (simp <;> omega) | simp)) | (with_reducible refine Below.trans ?_ (Below.mono (by with_reducible assumption) ?_); rotate_left; (first | omega | (simp <;> omega) | simp))))⟩
    · have q2 : ((K v : Int) == (b : Int)) = false := by simp; omega
      have hr := hide (show false = (decide (K u = a) && decide (K v = b)) by simp [hq, hp])
      generalize (decide (K u = a) && decide (K v = b)) = r at hr ⊢
      generalize (K u : Int) = ku at c1 q1
      generalize (K v : Int) = kv at c2 q2
      clear hq hp
      go_enter Try.func106, Try.ntmps106
      go_wp2
      go_quiet (fail)
      go_wp2
      go_ret
      exact ⟨ret_bool hr.out, (by repeat (first | with_reducible exact Below.refl _ _ | with_reducible assumption | with_reducible refine up_drewN ?_ | with_reducible refine up_drew ?_ | (with_reducible refine up_alloc ?_ ?_; rotate_left; (first | omega | (simp <;> omega) | simp)) | (with_reducible refine up_set ?_ ?_; rotate_left; (first | omega | (simp <;> omega) | simp)) | (with_reducible refine Below.trans ?_ (Below.mono (by with_reducible assumption) ?_); rotate_left; (first | omega | (simp <;> omega) | simp))))⟩
  · have q1 : ((K u : Int) == (a : Int)) = false := by simp; omega
    have hr := hide (show false = (decide (K u = a) && decide (K v = b)) by simp [hq])
    generalize (decide (K u = a) && decide (K v = b)) = r at hr ⊢
    generalize (K u : Int) = ku at c1 q1
    generalize (K v : Int) = kv at c2
    clear hq
    go_enter Try.func106, Try.ntmps106
    go_wp2
    go_quiet (fail)
    go_wp2
    go_ret
    exact ⟨ret_bool hr.out, (by repeat (first | with_reducible exact Below.refl _ _ | with_reducible assumption | with_reducible refine up_drewN ?_ | with_reducible refine up_drew ?_ | (with_reducible refine up_alloc ?_ ?_; rotate_left; (first | omega | (simp <;> omega) | simp)) | (with_reducible refine up_set ?_ ?_; rotate_left; (first | omega | (simp <;> omega) | simp)) | (with_reducible refine Below.trans ?_ (Below.mono (by with_reducible assumption) ?_); rotate_left; (first | omega | (simp <;> omega) | simp))))⟩
set_option maxRecDepth 100000 in
set_option maxHeartbeats 2000000 in
theorem kix_any (K : Nat → Nat) (n bo ba bb ck a b cn : Nat) (ak an : Option Addr) (es : List Ed) (w : World) (B : Nat) (hB : B ≤ w.heap.size) (hE : Row encE 3 w B an es) (k0 : w.cell? ⟨bo, 0, none⟩ = some (.slice ak n ck)) (hK : Row encI 1 w w.heap.size ak (LI n (ZI K))) (ka : w.cell? ⟨ba, 0, none⟩ = some (.int .i64 (a : Int))) (kb : w.cell? ⟨bb, 0, none⟩ = some (.int .i64 (b : Int))) (hn : n ≤ 64) (hl : es.length ≤ 600) (hes : Right n es) :
    Calls Try.prog 88 #[.slice an es.length cn, .func (.func 106) #[] #[.pointer (some ⟨bo, 0, none⟩), .pointer (some ⟨ba, 0, none⟩), .pointer (some ⟨bb, 0, none⟩)]] w fun e w' => e = .returned (.int .i64 (kIdx (kq K a b) es 0)) ∧ Below w.heap.size w w' := by
  have hD := hide (fun (u v : Nat) (c : Int) (w' : World) (hb : Below w.heap.size w w') (hu : u < n) (hv : v < n) => kk1_any K n bo ba bb ck a b u v c ak w' (cu_below hb k0 (cell_lt k0)) ((hK.below hb (Nat.le_refl _)).mono hb.size) (cu_below hb ka (cell_lt ka)) (cu_below hb kb (cell_lt kb)) hu hv hn)
  replace hE := hide hE
  replace hes := hide hes
  clear k0 hK ka kb
  go_enter Try.func88, Try.ntmps88
  go_wp2
  go_loopw [8] (fun i wr => ∃ j : Nat, j ≤ es.length ∧ i = .int .i64 j ∧ Hid (kIdx (kq K a b) es 0 = kIdx (kq K a b) (es.drop j) j) ∧ Hid (Below w.heap.size w wr)) (fun i _ => es.length - (intOf i).toNat)
  case atStart => exact ⟨0, Nat.zero_le _, rfl, rfl, Below.refl _ _⟩
  case round =>
    obtain ⟨j, hj, rfl, hrest, hb⟩ := hrel
    by_cases hlt : j < es.length
    · obtain ⟨u, v, e1, e2, e3, e4, -, -, -⟩ := right_edge hes.out j hlt
      obtain ⟨bl, o, rfl, hbB, c0, c1, c2⟩ := hE.out.ed j hlt
      have c0 := cu_below hb.out c0 (by simp; omega)
      have c1 := cu_below hb.out c1 (by simp; omega)
      have c2 := cu_below hb.out c2 (by simp; omega)
      rw [e1] at c0
      rw [e2] at c1
      have hz := hb.out.size
      have hbl : bl < wr.heap.size := by omega
      have hG := hD.out u v es[j].c wr hb.out e3 e4
      have hqe : kq K a b es[j] = (decide (K u = a) && decide (K v = b)) := by unfold kq; rw [e1, e2]; simp
      rw [← hqe] at hG
      replace hG := hide hG
      have hhit := hide (fun (h : kq K a b es[j] = true) => kIdx_hit (q := kq K a b) hlt h)
      have hmiss := hide (fun (h : kq K a b es[j] = false) => kIdx_miss (q := kq K a b) hlt h)
      obtain ⟨t, ht⟩ : ∃ t, t = kq K a b es[j] := ⟨_, rfl⟩
      rw [← ht] at hG hhit hmiss
      obtain ⟨ec, hec⟩ : ∃ x, x = es[j].c := ⟨_, rfl⟩
      rw [← hec] at c2 hG
      replace hec := hide hec
      replace ht := hide ht
      replace e1 := hide e1
      replace e2 := hide e2
      have ij : (0 : Int) ≤ (j : Int) ∧ (j : Int) < (es.length : Int) := by omega
      clear hqe
      cases t with
      | true =>
        have hq := hide (hhit.out rfl)
        clear hhit hmiss
        go_wp2_with fail
        refine hG.out.mono ?_
        rintro e w1 ⟨rfl, hb1⟩
        go_wp2
        go_ret
        exact ⟨ret_int (by rw [hrest.out, hq.out]), hb.out.trans (hb1.mono hz)⟩
      | false =>
        have hq := hide (hmiss.out rfl)
        clear hhit hmiss
        go_wp2_with fail
        refine hG.out.mono ?_
        rintro e w1 ⟨rfl, hb1⟩
        go_wp2
        go_roundw
        case rel => exact ⟨j + 1, by omega, by go_num, hide (by rw [hrest.out]; exact hq.out), hide (hb.out.trans (hb1.mono hz))⟩
        case measure => simp [intOf]; omega
    · go_wp2
      go_ret
      refine ⟨ret_int ?_, hb.out⟩
      rw [hrest.out, List.drop_eq_nil_of_le (by omega)]
      rfl
theorem kct_any (K : Nat → Nat) (n bo ba bb ck a b cn : Nat) (ak an : Option Addr) (es : List Ed) (w : World) (B : Nat) (hB : B ≤ w.heap.size) (hE : Row encE 3 w B an es) (k0 : w.cell? ⟨bo, 0, none⟩ = some (.slice ak n ck)) (hK : Row encI 1 w w.heap.size ak (LI n (ZI K))) (ka : w.cell? ⟨ba, 0, none⟩ = some (.int .i64 (a : Int))) (kb : w.cell? ⟨bb, 0, none⟩ = some (.int .i64 (b : Int))) (hn : n ≤ 64) (hl : es.length ≤ 600) (hes : Right n es) :
    Calls Try.prog 105 #[.slice an es.length cn, .func (.func 106) #[] #[.pointer (some ⟨bo, 0, none⟩), .pointer (some ⟨ba, 0, none⟩), .pointer (some ⟨bb, 0, none⟩)]] w fun e w' => e = .returned (.bool (es.any (kq K a b))) ∧ Below w.heap.size w w' := by
  have hG := hide (kix_any K n bo ba bb ck a b cn ak an es w B hB hE k0 hK ka kb hn hl hes)
  have hl2 := hide (kIdx_any (q := kq K a b) es 0)
  clear hE hK hes k0 ka kb
  go_enter Try.func105, Try.ntmps105
  go_wp2_with fail
  refine hG.out.mono ?_
  rintro e w1 ⟨rfl, hb1⟩
  go_wp2
  go_ret
  exact ⟨ret_bool hl2.out, hb1⟩
theorem ko1_any (K : Nat → Nat) (n bg bo ck a b cn : Nat) (ak an : Option Addr) (es : List Ed) (w : World) (B : Nat) (hB : B ≤ w.heap.size) (hE : Row encE 3 w B an es) (g1 : w.cell? ⟨bg, 1, none⟩ = some (.slice an es.length cn)) (k0 : w.cell? ⟨bo, 0, none⟩ = some (.slice ak n ck)) (hK : Row encI 1 w w.heap.size ak (LI n (ZI K))) (hn : n ≤ 64) (hl : es.length ≤ 600) (hes : Right n es) :
    Calls Try.prog 104 #[.int .i64 (a : Int), .int .i64 (b : Int), .pointer (some ⟨bg, 0, none⟩), .pointer (some ⟨bo, 0, none⟩)] w fun e w' => e = .returned (.bool (ldE (EK (nes es) K) a b)) ∧ Below w.heap.size w w' := by
  have hld := hide (ldE_EK es K a b)
  have hC := hide (fun (ba bb : Nat) (w' : World) (hb : Below w.heap.size w w') ka kb => kct_any K n bo ba bb ck a b cn ak an es w' B (Nat.le_trans hB hb.size) (hE.below hb hB) (cu_below hb k0 (cell_lt k0)) ((hK.below hb (Nat.le_refl _)).mono hb.size) ka kb hn hl hes)
  have lg := cell_lt g1
  simp only at lg
  clear hE hK hes k0
  generalize ldE (EK (nes es) K) a b = r at hld ⊢
  by_cases hab : a = b
  · subst hab
    have hr := hide (show false = r by rw [← hld.out]; simp)
    clear hC hld
    go_enter Try.func104, Try.ntmps104
    go_wp2
    go_ret
    exact ⟨ret_bool hr.out, (by repeat (first | with_reducible exact Below.refl _ _ | with_reducible assumption | with_reducible refine up_drewN ?_ | with_reducible refine up_drew ?_ | (with_reducible refine up_alloc ?_ ?_; rotate_left; (first | omega | (simp <;> omega) | simp)) | (with_reducible refine up_set ?_ ?_; rotate_left; (first | omega | (simp <;> omega) | simp)) | (with_reducible refine Below.trans ?_ (Below.mono (by with_reducible assumption) ?_); rotate_left; (first | omega | (simp <;> omega) | simp))))⟩
  · have hr := hide (show es.any (kq K a b) = r by rw [← hld.out]; simp [hab])
    have q1 : ((a : Int) != (b : Int)) = true := by simp; omega
    clear hld
    generalize es.any (kq K a b) = t at hr hC
    replace hab := hide hab
    go_enter Try.func104, Try.ntmps104
    go_wp2_with fail
    refine (hC.out _ _ _ ((by repeat (first | with_reducible exact Below.refl _ _ | with_reducible assumption | with_reducible refine up_drewN ?_ | with_reducible refine up_drew ?_ | (with_reducible refine up_alloc ?_ ?_; rotate_left; (first | omega | (simp <;> omega) | simp)) | (with_reducible refine up_set ?_ ?_; rotate_left; (first | omega | (simp <;> omega) | simp)) | (with_reducible refine Below.trans ?_ (Below.mono (by with_reducible assumption) ?_); rotate_left; (first | omega | (simp <;> omega) | simp)))) : Below w.heap.size w _) (by simp [go_sem]) (by simp [go_sem])).mono ?_
    rintro e w1 ⟨rfl, hb1⟩
    go_wp2
    go_ret
    exact ⟨ret_bool hr.out, (by repeat (first | with_reducible exact Below.refl _ _ | with_reducible assumption | with_reducible refine up_drewN ?_ | with_reducible refine up_drew ?_ | (with_reducible refine up_alloc ?_ ?_; rotate_left; (first | omega | (simp <;> omega) | simp)) | (with_reducible refine up_set ?_ ?_; rotate_left; (first | omega | (simp <;> omega) | simp)) | (with_reducible refine Below.trans ?_ (Below.mono (by with_reducible assumption) ?_); rotate_left; (first | omega | (simp <;> omega) | simp))))⟩
end Go.Proofs.Ytcehdpeeaogpiaa
