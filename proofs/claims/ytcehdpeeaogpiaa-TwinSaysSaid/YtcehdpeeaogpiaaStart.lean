/-
  What the reference's Start and Dist return: costs from one place. Conditions: a right net, a place of it.
-/
import Derived.Test.YtcehdpeeaogpiaaAnyBad
import Derived.Test.YtcehdpeeaogpiaaAllP
namespace Go.Proofs.Ytcehdpeeaogpiaa
open Go.RowKit
set_option linter.unusedSimpArgs false
set_option linter.unusedVariables false
theorem stF_upz (v : Nat) : upz (fun _ => FAR) v 0 = stF v := by
  funext u; simp [upz, stF]
theorem stF_low (v : Nat) : Low 0 (stF v) := fun u => ⟨by unfold stF; split <;> simp [FAR], stF_far v u⟩
/-- costs from v, round by round -/
def distF (n : Nat) (es : List Ed) (v : Nat) : Nat → Int := spread (nes es) (stF v) (n - 1)
def distF1 (n : Nat) (es : List Ed) (v : Nat) : Nat → Int := spread (nes es) (stF v) n
theorem distF_low {n : Nat} {es : List Ed} (hn : n ≤ 64) (hes : Right n es) (v : Nat) : Low 2199023255552 (distF n es v) := (spread_low (by omega) (stF_low v) (nes_cost hes) (n - 1)).mono (by omega)
/-- a new slice that reads as xs -/
def RowNew {α : Type} (enc : α → List Value) (sz : Nat) (xs : List α) (n : Nat) (w : World) (e' : Ending) (w' : World) : Prop := ∃ g c, e' = .returned (.slice (some ⟨g, 0, none⟩) n c) ∧ Row enc sz w' w'.heap.size (some ⟨g, 0, none⟩) xs ∧ Below w.heap.size w w' ∧ w.heap.size ≤ g ∧ g < w'.heap.size
set_option maxHeartbeats 400000 in
theorem start_any (n v : Nat) (w : World) (hn : n ≤ 64) (hv : v < n) :
    Calls Try.prog 124 #[.int .i64 (n : Int), .int .i64 (v : Int)] w (OwnBack encI 1 3 (LI n (stF v)) n w) := by
  go_enter Try.func124, Try.ntmps124
  go_wp2_with (at_make; (refine wpList_mk (e := 3) (enc := encI) rfl (.tmp 7) 29 rfl (.int .i64 0) 8 (0 : Int) Try.underlying29 info_int rfl rfl (n) ?e11 ?e21 ?e31 (w.heap.size) ?e41 ?_); (case e11 => rfl); (case e21 => omega); (case e31 => unfold maxLen; omega); (case e41 => first | omega | (simp; done) | (simp; omega)); intro w1 own1 hb1 hsz1; replace own1 := hide own1; replace hb1 := hide hb1)
  go_loopw [6, 11] (fun _ i wr => ∃ (k : Nat), k ≤ n ∧ i = .int .i64 k ∧ Hid (Own encI 1 3 wr w.heap.size (.slice (some ⟨w.heap.size, 0, none⟩) n n) (LI n (first k (fun _ => FAR) (fun _ => 0)))) ∧ Hid (Below w.heap.size w wr)) (fun _ i _ => n - (intOf i).toNat)
  case atStart => exact ⟨0, Nat.zero_le _, rfl, by rw [first_zero, ← li_rep]; exact own1, hb1⟩
  case round =>
    obtain ⟨k, hk, rfl, own, hb⟩ := hrel
    have hfr := own.out.free
    have hgs := own.out.at_base
    by_cases hlt : k < n
    · have c0 := own.out.atI k hlt
      have own2 := own.out.setI k hlt FAR
      rw [first_step k (fun _ => FAR) (fun _ => 0)] at own2
      replace own2 := hide own2
      go_wp2
      go_roundw
      case rel => exact ⟨k + 1, by omega, by go_num, own2, hide (hb.out.setCell (by simp) _)⟩
      case measure => simp [intOf]; omega
    · obtain rfl : n = k := by omega
      have own3 := own.out
      rw [first_all] at own3
      have c0 := own3.atI v hv
      have own4 := own3.setI v hv 0
      rw [stF_upz] at own4
      replace own4 := hide own4
      replace own3 := hide own3
      have i1 : (0 : Int) ≤ (v : Int) ∧ (v : Int) < (n : Int) := by omega
      clear own1
      go_wp2
      go_ret
      exact ⟨_, _, rfl, own4.out, hb.out.setCell (by simp) _⟩
set_option maxRecDepth 100000 in
set_option maxHeartbeats 1000000 in
theorem rdist_new (n : Nat) (a : Option Addr) (cap : Nat) (es : List Ed) (v : Nat) (w : World) (B : Nat) (hB : B ≤ w.heap.size) (hE : Row encE 3 w B a es) (hn1 : 1 ≤ n) (hn : n ≤ 64) (hl : es.length ≤ 600) (hes : Right n es) (hv : v < n) :
    Calls Try.prog 52 #[.agg #[.int .i64 (n : Int), .slice a es.length cap], .int .i64 (v : Int)] w (RowNew encI 1 (LI n (distF n es v)) n w) := by
  have hw1 : IntKind.i64.wrap ((n : Int) - 1) = (n : Int) - 1 := IntWalk.i64_in _ (by omega)
  replace hE := hide hE
  replace hes := hide hes
  go_enter Try.func52, Try.ntmps52
  go_wp2_with fail
  obtain ⟨w0, h0⟩ : ∃ w0, w0 = w.alloc (.cells #[.int .i64 (n : Int), .slice a es.length cap] 24) := ⟨_, rfl⟩
  have hB0 : Below w.heap.size w w0 := by rw [h0]; exact (by repeat (first | with_reducible exact Below.refl _ _ | with_reducible assumption | with_reducible refine up_drewN ?_ | with_reducible refine up_drew ?_ | (with_reducible refine up_alloc ?_ ?_; rotate_left; (first | omega | (simp <;> omega) | simp)) | (with_reducible refine up_set ?_ ?_; rotate_left; (first | omega | (simp <;> omega) | simp)) | (with_reducible refine Below.trans ?_ (Below.mono (by with_reducible assumption) ?_); rotate_left; (first | omega | (simp <;> omega) | simp))))
  have c0 : w0.cell? ⟨w.heap.size, 0, none⟩ = some (.int .i64 (n : Int)) := by rw [h0]; simp [go_sem]
  have c1 : w0.cell? ⟨w.heap.size, 1, none⟩ = some (.slice a es.length cap) := by rw [h0]; simp [go_sem]
  have key := hide (show ∀ w', Below w0.heap.size w0 w' → (Below w0.heap.size w0 w' ∧ w'.cell? ⟨w.heap.size, 0, none⟩ = some (.int .i64 (n : Int)) ∧ w'.cell? ⟨w.heap.size, 1, none⟩ = some (.slice a es.length cap)) from
    fun w' hb => ⟨hb, (hb.cell (cell_lt c0)).trans c0, (hb.cell (cell_lt c1)).trans c1⟩)
  have hE0 := hide (hE.out.below hB0 hB)
  have hB1 := hide (Nat.le_trans hB hB0.size)
  simp only [← h0]
  replace hB0 := hide hB0
  clear h0 c0 c1
  go_region_held3 (fun w' => Below w0.heap.size w0 w' ∧ w'.cell? ⟨w.heap.size, 0, none⟩ = some (.int .i64 (n : Int)) ∧ w'.cell? ⟨w.heap.size, 1, none⟩ = some (.slice a es.length cap))
    (first | exact key.out _ (below_drew _) | exact key.out _ (by assumption))
    (first | (go_at_call 124; have hb2 := (‹_ ∧ _› : _ ∧ _).1; refine (start_any n v _ hn hv).mono ?_; rintro e w3 ⟨sa, sc, rfl, own3, hb3⟩; obtain ⟨sg, rfl, sg1, sg2⟩ := own3.blockI (by omega); have hb4 := below_step hb2 hb3) | (go_at_call 123; refine (spread_zf n a cap es (some ⟨sg, 0, none⟩) sc (stF v) (n - 1) _ (by omega) _ B _ (Nat.le_trans hB1.out hb4.size) (Nat.le_refl _) (hE0.out.below hb4 hB1.out) hn1 hn hl (by omega) hes.out (own_row own3) ((stF_low v).mono (by omega))).mono ?_; rintro e w5 ⟨av, cv, rfl, hr5, hb5, hfs⟩; have hb6 := below_step hb4 hb5))
  all_goals
    have hb7 := (‹_ ∧ _› : _ ∧ _).1
    obtain ⟨ag, rfl, ag1⟩ : ∃ g, av = some ⟨g, 0, none⟩ ∧ w.heap.size ≤ g := by
      have h1 := hb2.size
      have h2 := hb4.size
      have h3 := hB0.out.size
      rcases hfs with ⟨rfl, -⟩ | ⟨g, rfl, hg, -⟩
      · exact ⟨sg, rfl, by omega⟩
      · exact ⟨g, rfl, by omega⟩
    have ag2 : ag < w5.heap.size := by
      obtain ⟨b, o, h1, h2, _⟩ := hr5.int 0 (by rw [li_len]; omega)
      simp only [Option.some.injEq, Addr.mk.injEq] at h1
      omega
    replace hr5 := hide hr5
    clear hfs
    go_wp2
    go_ret
    exact ⟨ag, cv, rfl, hr5.out, hB0.out.trans (hb7.mono hB0.out.size), ag1, ag2⟩
theorem rdist_any (n : Nat) (a : Option Addr) (cap : Nat) (es : List Ed) (v : Nat) (w : World) (B : Nat) (hB : B ≤ w.heap.size) (hE : Row encE 3 w B a es) (hn1 : 1 ≤ n) (hn : n ≤ 64) (hl : es.length ≤ 600) (hes : Right n es) (hv : v < n) :
    Calls Try.prog 52 #[.agg #[.int .i64 (n : Int), .slice a es.length cap], .int .i64 (v : Int)] w (RowBack encI 1 (LI n (distF n es v)) n w) :=
  (rdist_new n a cap es v w B hB hE hn1 hn hl hes hv).mono fun e w' ⟨g, c, h1, h2, h3, _⟩ => ⟨_, c, h1, h2, h3⟩
end Go.Proofs.Ytcehdpeeaogpiaa
