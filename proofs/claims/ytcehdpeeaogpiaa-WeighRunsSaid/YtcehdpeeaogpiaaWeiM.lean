/-
  What weigh.Run returns. Conditions: that the arguments read.
-/
import Derived.Test.YtcehdpeeaogpiaaWeiS
import Derived.Test.YtcehdpeeaogpiaaSLook
import Derived.Test.YtcehdpeeaogpiaaWeight
import Derived.Test.YtcehdpeeaogpiaaStarTot2
import Derived.Test.YtcehdpeeaogpiaaFoundA
namespace Go.Proofs.Ytcehdpeeaogpiaa
open Go.RowKit
set_option linter.unusedSimpArgs false
set_option linter.unusedVariables false
def keyW (r : P2) (c g : Int) : Int := r.b * c + r.a * g
theorem keyW_b {r : P2} (h : weighErr r = 0) {c g : Int} (h1 : 0 ≤ c) (h2 : c ≤ 10000000) (h3 : 0 ≤ g) (h4 : g ≤ 1099511627776) : 0 ≤ r.b * c ∧ r.b * c ≤ 10000000000000 ∧ 0 ≤ r.a * g ∧ r.a * g ≤ 1099511627776000000 := by
  obtain ⟨b1, b2, b3⟩ := weighErr_ok h
  have e1 : r.b * c ≤ 1000000 * 10000000 := Int.mul_le_mul (by omega) h2 h1 (by omega)
  have e2 : r.a * g ≤ 1000000 * 1099511627776 := Int.mul_le_mul (by omega) h4 h3 (by omega)
  exact ⟨Int.mul_nonneg (by omega) h1, by omega, Int.mul_nonneg (by omega) h3, by omega⟩
theorem keyW_mono {r : P2} (h : weighErr r = 0) (c d g : Int) (hcd : c ≤ d) : keyW r c g ≤ keyW r d g := by
  obtain ⟨b1, b2, b3⟩ := weighErr_ok h
  have := Int.mul_le_mul_of_nonneg_left hcd (show 0 ≤ r.b by omega)
  unfold keyW
  omega
theorem keyRunW (r : P2) (h : weighErr r = 0) (kb : Nat) (w : World) (c0 : w.cell? ⟨kb, 0, none⟩ = some (.int .i64 r.a)) (c1 : w.cell? ⟨kb, 1, none⟩ = some (.int .i64 r.b)) : KeyFnW kb (keyW r) w := by
  intro c g h1 h2 h3 h4
  obtain ⟨m1, m2, m3, m4⟩ := keyW_b h h1 h2 h3 h4
  have w1 : IntKind.i64.wrap (r.b * c) = r.b * c := IntWalk.i64_in _ (by omega)
  have w2 : IntKind.i64.wrap (r.a * g) = r.a * g := IntWalk.i64_in _ (by omega)
  have w3 : IntKind.i64.wrap (r.b * c + r.a * g) = r.b * c + r.a * g := IntWalk.i64_in _ (by omega)
  have hlt := cell_lt c0
  clear h
  unfold keyW
  go_enter Try.func192, Try.ntmps192
  go_wp2
  go_ret
  exact ⟨rfl, rfl⟩
theorem wkey_any (a b : Int) (w : World) : Calls Try.prog 131 #[.agg #[.int .i64 a, .int .i64 b]] w fun e w' => e = .returned (.func (.func 192) #[] #[.pointer (some ⟨w.heap.size, 0, none⟩)]) ∧ w' = w.alloc (.cells #[.int .i64 a, .int .i64 b] 90) := by
  go_enter Try.func131, Try.ntmps131
  go_wp2
  go_ret
  exact ⟨rfl, rfl⟩
def wrunErr (N : Int) (es : List Ed) (x1 x2 : Int) (h : List Int) (r : P2) : Int := if slookErr N es x1 x2 h ≠ 0 then slookErr N es x1 x2 h else weighErr r
set_option maxHeartbeats 1000000 in
theorem wrun_bad (N : Int) (a : Option Addr) (cap : Nat) (es : List Ed) (x1 x2 : Int) (ah : Option Addr) (ch : Nat) (h : List Int) (r : P2) (w : World) (B : Nat) (hB : B ≤ w.heap.size) (hE : Row encE 3 w B a es) (hH : Row encI 1 w B ah h) (hl : es.length ≤ 9223372036854775807) (hl2 : h.length ≤ 9223372036854775807) (h0 : wrunErr N es x1 x2 h r ≠ 0) :
    Calls Try.prog 58 #[.agg #[.int .i64 N, .slice a es.length cap], .int .i64 x1, .int .i64 x2, .slice ah h.length ch, .agg #[.int .i64 r.a, .int .i64 r.b]] w fun e w' => e = .returned (.tuple #[FoundNone, .int .i64 (wrunErr N es x1 x2 h r)]) ∧ Below w.heap.size w w' := by
  have hC := hide (fun (w' : World) (hb : Below w.heap.size w w') => slook_any N a cap es x1 x2 ah ch h w' B (Nat.le_trans hB hb.size) (hE.below hb hB) (hH.below hb hB) hl hl2)
  have hW := hide (fun (w' : World) => weight_any r w')
  obtain ⟨ra, rb⟩ := r
  simp only at hW ⊢
  by_cases hs : slookErr N es x1 x2 h = 0
  · have hr : wrunErr N es x1 x2 h ⟨ra, rb⟩ = weighErr ⟨ra, rb⟩ := by unfold wrunErr; rw [if_neg (by simpa using hs)]
    rw [hr] at h0 ⊢
    rw [hs] at hC
    obtain ⟨er, her⟩ : ∃ er, er = weighErr ⟨ra, rb⟩ := ⟨_, rfl⟩
    rw [← her] at h0 hW ⊢
    have q0 : (er != 0) = true := by simpa using h0
    replace her := hide her
    clear hE hH h0 hr hs
    go_enter Try.func58, Try.ntmps58
    go_wp2_with fail
    refine (hC.out _ (by exact (by repeat (first | with_reducible exact Below.refl _ _ | with_reducible assumption | with_reducible refine up_drewN ?_ | with_reducible refine up_drew ?_ | (with_reducible refine up_alloc ?_ ?_; rotate_left; (first | omega | (simp <;> omega) | simp)) | (with_reducible refine up_set ?_ ?_; rotate_left; (first | omega | (simp <;> omega) | simp)) | (with_reducible refine Below.trans ?_ (Below.mono (by with_reducible assumption) ?_); rotate_left; (first | omega | (simp <;> omega) | simp)))))).mono ?_
    rintro e w1 ⟨rfl, hb1⟩
    have r0 := cu_below hb1 (p := ⟨w.heap.size + 1, 0, none⟩) (v := .int .i64 ra) (by simp [go_sem]) (by first | omega | (simp; done) | (simp; omega))
    have r1 := cu_below hb1 (p := ⟨w.heap.size + 1, 1, none⟩) (v := .int .i64 rb) (by simp [go_sem]) (by first | omega | (simp; done) | (simp; omega))
    have k0 := cu_below hb1 (p := ⟨w.heap.size + 1 + 1, 0, none⟩) (v := .slice none 0 0) (by simp [go_sem]) (by first | omega | (simp; done) | (simp; omega))
    have k1 := cu_below hb1 (p := ⟨w.heap.size + 1 + 1, 1, none⟩) (v := .int .i64 0) (by simp [go_sem]) (by first | omega | (simp; done) | (simp; omega))
    have k2 := cu_below hb1 (p := ⟨w.heap.size + 1 + 1, 2, none⟩) (v := .slice none 0 0) (by simp [go_sem]) (by first | omega | (simp; done) | (simp; omega))
    have f0 := fu_below hb1 (p := ⟨w.heap.size + 1 + 1, 0, none⟩) (by simp [go_sem]) (by first | omega | (simp; done) | (simp; omega))
    have f1 := fu_below hb1 (p := ⟨w.heap.size + 1 + 1, 1, none⟩) (by simp [go_sem]) (by first | omega | (simp; done) | (simp; omega))
    have f2 := fu_below hb1 (p := ⟨w.heap.size + 1 + 1, 2, none⟩) (by simp [go_sem]) (by first | omega | (simp; done) | (simp; omega))
    have hb2 := hide ((((by repeat (first | with_reducible exact Below.refl _ _ | with_reducible assumption | with_reducible refine up_drewN ?_ | with_reducible refine up_drew ?_ | (with_reducible refine up_alloc ?_ ?_; rotate_left; (first | omega | (simp <;> omega) | simp)) | (with_reducible refine up_set ?_ ?_; rotate_left; (first | omega | (simp <;> omega) | simp)) | (with_reducible refine Below.trans ?_ (Below.mono (by with_reducible assumption) ?_); rotate_left; (first | omega | (simp <;> omega) | simp)))) : Below w.heap.size w _)).trans (hb1.mono (by first | omega | (simp; done) | (simp; omega))))
    have hzw : w.heap.size + 1 + 1 < w1.heap.size := cell_lt k0
    clear hb1
    go_wp2_with fail
    refine (hW.out _).mono ?_
    rintro e w2 ⟨rfl, hb3⟩
    have k0 := cu_below hb3 k0 (by first | omega | (simp; done) | (simp; omega))
    have k1 := cu_below hb3 k1 (by first | omega | (simp; done) | (simp; omega))
    have k2 := cu_below hb3 k2 (by first | omega | (simp; done) | (simp; omega))
    have f0 := fu_below hb3 f0 (by first | omega | (simp; done) | (simp; omega))
    have f1 := fu_below hb3 f1 (by first | omega | (simp; done) | (simp; omega))
    have f2 := fu_below hb3 f2 (by first | omega | (simp; done) | (simp; omega))
    have hb4 := hide (hb2.out.trans (hb3.mono (by omega)))
    clear hb3
    go_wp2
    refine bodyPost_ret (v := .tuple #[FoundNone, .int .i64 er]) (by simp [results, Try.results58, go_sem, FoundNone, k0, k1, k2, f0, f1, f2]) rfl ?_
    exact ⟨rfl, ((hb4.out.setCell (by first | omega | (simp; done) | (simp; omega)) _).setCell (by first | omega | (simp; done) | (simp; omega)) _).setCell (by first | omega | (simp; done) | (simp; omega)) _⟩
  · have hr : wrunErr N es x1 x2 h ⟨ra, rb⟩ = slookErr N es x1 x2 h := by unfold wrunErr; rw [if_pos hs]
    rw [hr]
    obtain ⟨er, her⟩ : ∃ er, er = slookErr N es x1 x2 h := ⟨_, rfl⟩
    rw [← her] at hs hC ⊢
    have q0 : (er != 0) = true := by simpa using hs
    replace her := hide her
    clear hE hH h0 hr hs
    go_enter Try.func58, Try.ntmps58
    go_wp2_with fail
    refine (hC.out _ (by exact (by repeat (first | with_reducible exact Below.refl _ _ | with_reducible assumption | with_reducible refine up_drewN ?_ | with_reducible refine up_drew ?_ | (with_reducible refine up_alloc ?_ ?_; rotate_left; (first | omega | (simp <;> omega) | simp)) | (with_reducible refine up_set ?_ ?_; rotate_left; (first | omega | (simp <;> omega) | simp)) | (with_reducible refine Below.trans ?_ (Below.mono (by with_reducible assumption) ?_); rotate_left; (first | omega | (simp <;> omega) | simp)))))).mono ?_
    rintro e w1 ⟨rfl, hb1⟩
    have k0 := cu_below hb1 (p := ⟨w.heap.size + 1 + 1, 0, none⟩) (v := .slice none 0 0) (by simp [go_sem]) (by first | omega | (simp; done) | (simp; omega))
    have k1 := cu_below hb1 (p := ⟨w.heap.size + 1 + 1, 1, none⟩) (v := .int .i64 0) (by simp [go_sem]) (by first | omega | (simp; done) | (simp; omega))
    have k2 := cu_below hb1 (p := ⟨w.heap.size + 1 + 1, 2, none⟩) (v := .slice none 0 0) (by simp [go_sem]) (by first | omega | (simp; done) | (simp; omega))
    have f0 := fu_below hb1 (p := ⟨w.heap.size + 1 + 1, 0, none⟩) (by simp [go_sem]) (by first | omega | (simp; done) | (simp; omega))
    have f1 := fu_below hb1 (p := ⟨w.heap.size + 1 + 1, 1, none⟩) (by simp [go_sem]) (by first | omega | (simp; done) | (simp; omega))
    have f2 := fu_below hb1 (p := ⟨w.heap.size + 1 + 1, 2, none⟩) (by simp [go_sem]) (by first | omega | (simp; done) | (simp; omega))
    have hb2 := hide ((((by repeat (first | with_reducible exact Below.refl _ _ | with_reducible assumption | with_reducible refine up_drewN ?_ | with_reducible refine up_drew ?_ | (with_reducible refine up_alloc ?_ ?_; rotate_left; (first | omega | (simp <;> omega) | simp)) | (with_reducible refine up_set ?_ ?_; rotate_left; (first | omega | (simp <;> omega) | simp)) | (with_reducible refine Below.trans ?_ (Below.mono (by with_reducible assumption) ?_); rotate_left; (first | omega | (simp <;> omega) | simp)))) : Below w.heap.size w _)).trans (hb1.mono (by first | omega | (simp; done) | (simp; omega))))
    clear hb1
    go_wp2
    refine bodyPost_ret (v := .tuple #[FoundNone, .int .i64 er]) (by simp [results, Try.results58, go_sem, FoundNone, k0, k1, k2, f0, f1, f2]) rfl ?_
    exact ⟨rfl, ((hb2.out.setCell (by first | omega | (simp; done) | (simp; omega)) _).setCell (by first | omega | (simp; done) | (simp; omega)) _).setCell (by first | omega | (simp; done) | (simp; omega)) _⟩
/-- what each operation of weigh.Run's last statement leaves -/
def FWr (n v t : Nat) (sa sh : Value) (ra rb cost er : Int) (xs ys : List Int) (b0 : Nat) : Nat → Value → Nat → Nat → World → Prop
  | 0, x, _, _, _ => x = .agg #[.int .i64 (n : Int), sa]
  | 1, x, _, _, _ => x = .int .i64 (v : Int)
  | 2, x, _, _, _ => x = .int .i64 (t : Int)
  | 3, x, _, _, _ => x = sh
  | 4, x, _, _, _ => x = .agg #[.int .i64 ra, .int .i64 rb]
  | 5, x, lo, _, w => x = .func (.func 192) #[] #[.pointer (some ⟨lo, 0, none⟩)] ∧ w.cell? ⟨lo, 0, none⟩ = some (.int .i64 ra) ∧ w.cell? ⟨lo, 1, none⟩ = some (.int .i64 rb)
  | 6, x, _, _, w => ∃ a c b d, x = .tuple #[.agg #[.slice a xs.length c, .int .i64 cost, .slice b ys.length d], .int .i64 er] ∧ Own encI 1 3 w b0 (.slice a xs.length c) xs ∧ Own encI 1 3 w b0 (.slice b ys.length d) ys
  | 7, x, _, _, w => ∃ a c b d, x = .agg #[.slice a xs.length c, .int .i64 cost, .slice b ys.length d] ∧ Own encI 1 3 w b0 (.slice a xs.length c) xs ∧ Own encI 1 3 w b0 (.slice b ys.length d) ys
  | 8, x, _, _, _ => x = .int .i64 er
  | _, _, _, _, _ => True
theorem fwr_stays {n v t : Nat} {sa sh : Value} {ra rb cost er : Int} {xs ys : List Int} {b0 : Nat} : ∀ (i : Nat) (x : Value) (lo hi : Nat) (w w' : World), FWr n v t sa sh ra rb cost er xs ys b0 i x lo hi w → Below w.heap.size w w' → FWr n v t sa sh ra rb cost er xs ys b0 i x lo hi w'
  | 0, _, _, _, _, _, h, _ => h
  | 1, _, _, _, _, _, h, _ => h
  | 2, _, _, _, _, _, h, _ => h
  | 3, _, _, _, _, _, h, _ => h
  | 4, _, _, _, _, _, h, _ => h
  | 5, _, _, _, _, _, ⟨h1, h2, h3⟩, hb => ⟨h1, cu_below hb h2 (cell_lt h2), cu_below hb h3 (cell_lt h3)⟩
  | 6, _, _, _, _, _, ⟨a, c, b, d, h1, h2, h3⟩, hb => ⟨a, c, b, d, h1, h2.stays hb, h3.stays hb⟩
  | 7, _, _, _, _, _, ⟨a, c, b, d, h1, h2, h3⟩, hb => ⟨a, c, b, d, h1, h2.stays hb, h3.stays hb⟩
  | 8, _, _, _, _, _, h, _ => h
  | _ + 9, _, _, _, _, _, _, _ => trivial
set_option maxRecDepth 100000 in
set_option maxHeartbeats 4000000 in
theorem wrun_ok (n v t : Nat) (a : Option Addr) (cap : Nat) (es : List Ed) (ah : Option Addr) (ch : Nat) (h : List Int) (r : P2) (cost er : Int) (xs ys : List Int) (w : World) (B : Nat) (hB : B ≤ w.heap.size) (hE : Row encE 3 w B a es) (hH : Row encI 1 w B ah h) (hl : es.length ≤ 9223372036854775807) (hl2 : h.length ≤ 9223372036854775807) (h0 : slookErr (n : Int) es (v : Int) (t : Int) h = 0) (hw : weighErr r = 0)
    (hI : ∀ w e w', FoundAns (keyW r) (nes es) (hAt h) n t (sStart (hAt h) v) w e w' → FoundIs cost xs ys er w e w') :
    Calls Try.prog 58 #[.agg #[.int .i64 (n : Int), .slice a es.length cap], .int .i64 (v : Int), .int .i64 (t : Int), .slice ah h.length ch, .agg #[.int .i64 r.a, .int .i64 r.b]] w (FoundIs cost xs ys er w) := by
  have hC := hide (fun (w' : World) (hb : Below w.heap.size w w') => slook_any (n : Int) a cap es (v : Int) (t : Int) ah ch h w' B (Nat.le_trans hB hb.size) (hE.below hb hB) (hH.below hb hB) hl hl2)
  obtain ⟨n', v', t', e1, e2, e3, a1, a2, a3, a4, a5, a6, a7, a8, a9, a10, a11⟩ := slook_all h0
  obtain rfl : n = n' := by omega
  obtain rfl : v = v' := by omega
  obtain rfl : t = t' := by omega
  rw [h0] at hC
  have hWt := hide (fun (w' : World) => weight_any r w')
  rw [hw] at hWt
  have hSe := hide (fun (w' : World) (kb : Nat) (hb : Below w.heap.size w w') (c0 : w'.cell? ⟨kb, 0, none⟩ = some (.int .i64 r.a)) (c1 : w'.cell? ⟨kb, 1, none⟩ = some (.int .i64 r.b)) => (search_anyW kb n v t a ah cap ch es (hAt h) w' B (Nat.le_trans hB hb.size) (hE.below hb hB) (by have := li_hAt h; rw [a8] at this; rw [this]; exact hH.below hb hB) a1 a2 a3 a4 a5 a6 a7 (fun u _ => a9 u) (keyW r) (keyW_mono hw) (fun w'' hb2 => keyRunW r hw kb w'' (cu_below hb2 c0 (cell_lt c0)) (cu_below hb2 c1 (cell_lt c1)))).mono (fun e w'' hA => hI _ _ _ hA))
  rw [a8] at hC ⊢
  obtain ⟨ra, rb⟩ := r
  simp only at hSe hWt ⊢
  clear hE hH h0 a4 a5 a9 a10 a11 a8 e1 e2 e3 hw hI
  go_enter Try.func58, Try.ntmps58
  go_wp2_with fail
  refine (hC.out _ (by exact (by repeat (first | with_reducible exact Below.refl _ _ | with_reducible assumption | with_reducible refine up_drewN ?_ | with_reducible refine up_drew ?_ | (with_reducible refine up_alloc ?_ ?_; rotate_left; (first | omega | (simp <;> omega) | simp)) | (with_reducible refine up_set ?_ ?_; rotate_left; (first | omega | (simp <;> omega) | simp)) | (with_reducible refine Below.trans ?_ (Below.mono (by with_reducible assumption) ?_); rotate_left; (first | omega | (simp <;> omega) | simp)))))).mono ?_
  rintro e w1 ⟨rfl, hb1⟩
  have k3 := cu_below hb1 (p := ⟨w.heap.size, 0, none⟩) (v := .int .i64 (n : Int)) (by simp [go_sem]) (by first | omega | (simp; done) | (simp; omega))
  have k4 := cu_below hb1 (p := ⟨w.heap.size, 1, none⟩) (v := .slice a es.length cap) (by simp [go_sem]) (by first | omega | (simp; done) | (simp; omega))
  have r0 := cu_below hb1 (p := ⟨w.heap.size + 1, 0, none⟩) (v := .int .i64 ra) (by simp [go_sem]) (by first | omega | (simp; done) | (simp; omega))
  have r1 := cu_below hb1 (p := ⟨w.heap.size + 1, 1, none⟩) (v := .int .i64 rb) (by simp [go_sem]) (by first | omega | (simp; done) | (simp; omega))
  have k0 := cu_below hb1 (p := ⟨w.heap.size + 1 + 1, 0, none⟩) (v := .slice none 0 0) (by simp [go_sem]) (by first | omega | (simp; done) | (simp; omega))
  have k1 := cu_below hb1 (p := ⟨w.heap.size + 1 + 1, 1, none⟩) (v := .int .i64 0) (by simp [go_sem]) (by first | omega | (simp; done) | (simp; omega))
  have k2 := cu_below hb1 (p := ⟨w.heap.size + 1 + 1, 2, none⟩) (v := .slice none 0 0) (by simp [go_sem]) (by first | omega | (simp; done) | (simp; omega))
  have f0 := fu_below hb1 (p := ⟨w.heap.size + 1 + 1, 0, none⟩) (by simp [go_sem]) (by first | omega | (simp; done) | (simp; omega))
  have f1 := fu_below hb1 (p := ⟨w.heap.size + 1 + 1, 1, none⟩) (by simp [go_sem]) (by first | omega | (simp; done) | (simp; omega))
  have f2 := fu_below hb1 (p := ⟨w.heap.size + 1 + 1, 2, none⟩) (by simp [go_sem]) (by first | omega | (simp; done) | (simp; omega))
  have hb2 := hide ((((by repeat (first | with_reducible exact Below.refl _ _ | with_reducible assumption | with_reducible refine up_drewN ?_ | with_reducible refine up_drew ?_ | (with_reducible refine up_alloc ?_ ?_; rotate_left; (first | omega | (simp <;> omega) | simp)) | (with_reducible refine up_set ?_ ?_; rotate_left; (first | omega | (simp <;> omega) | simp)) | (with_reducible refine Below.trans ?_ (Below.mono (by with_reducible assumption) ?_); rotate_left; (first | omega | (simp <;> omega) | simp)))) : Below w.heap.size w _)).trans (hb1.mono (by first | omega | (simp; done) | (simp; omega))))
  have hzw : w.heap.size + 1 + 1 < w1.heap.size := cell_lt k0
  clear hb1
  go_wp2_with fail
  refine (hWt.out _).mono ?_
  rintro e w2 ⟨rfl, hb3⟩
  have k0 := cu_below hb3 k0 (by first | omega | (simp; done) | (simp; omega))
  have k1 := cu_below hb3 k1 (by first | omega | (simp; done) | (simp; omega))
  have k2 := cu_below hb3 k2 (by first | omega | (simp; done) | (simp; omega))
  have k3 := cu_below hb3 k3 (by first | omega | (simp; done) | (simp; omega))
  have k4 := cu_below hb3 k4 (by first | omega | (simp; done) | (simp; omega))
  have r0 := cu_below hb3 r0 (by first | omega | (simp; done) | (simp; omega))
  have r1 := cu_below hb3 r1 (by first | omega | (simp; done) | (simp; omega))
  have f0 := fu_below hb3 f0 (by first | omega | (simp; done) | (simp; omega))
  have f1 := fu_below hb3 f1 (by first | omega | (simp; done) | (simp; omega))
  have f2 := fu_below hb3 f2 (by first | omega | (simp; done) | (simp; omega))
  have hb4 := hide (hb2.out.trans (hb3.mono (by omega)))
  have hzw2 : w.heap.size + 1 + 1 < w2.heap.size := cell_lt k0
  clear hb3 hb2 hzw hC hWt
  go_upto_region 7 with fail
  have key1 := hide (show ∀ w', Below w2.heap.size w2 w' → (Below w2.heap.size w2 w' ∧ w'.cell? ⟨w.heap.size, 0, none⟩ = some (.int .i64 (n : Int)) ∧ w'.cell? ⟨w.heap.size, 1, none⟩ = some (.slice a es.length cap) ∧ w'.cell? ⟨w.heap.size + 1, 0, none⟩ = some (.int .i64 ra) ∧ w'.cell? ⟨w.heap.size + 1, 1, none⟩ = some (.int .i64 rb) ∧ w2.heap.size ≤ w'.heap.size) from
    fun w' hb => ⟨hb, cu_below hb k3 (by first | omega | (simp; done) | (simp; omega)), cu_below hb k4 (by first | omega | (simp; done) | (simp; omega)), cu_below hb r0 (by first | omega | (simp; done) | (simp; omega)), cu_below hb r1 (by first | omega | (simp; done) | (simp; omega)), hb.size⟩)
  clear k3 k4 r0 r1
  refine wp_region_inv 9 (by kernel_rfl) [some 29, some 30, some 31, some 32, some 33, some 34, some 35, some 36, some 37] (FWr n v t (.slice a es.length cap) (.slice ah n ch) ra rb cost er xs ys w2.heap.size) (fun w' => Below w2.heap.size w2 w' ∧ w'.cell? ⟨w.heap.size, 0, none⟩ = some (.int .i64 (n : Int)) ∧ w'.cell? ⟨w.heap.size, 1, none⟩ = some (.slice a es.length cap) ∧ w'.cell? ⟨w.heap.size + 1, 0, none⟩ = some (.int .i64 ra) ∧ w'.cell? ⟨w.heap.size + 1, 1, none⟩ = some (.int .i64 rb) ∧ w2.heap.size ≤ w'.heap.size) (fun w w' => Below w.heap.size w w') (by kernel_rfl) (by kernel_rfl) (by kernel_rfl) (by kernel_rfl) (fwr_stays) (fun _ _ h => h.size) (key1.out _ (below_drew _)) ?steps ?hend
  case steps =>
    refine ⟨?_, ?_, ?_, ?_, ?_, ?_, ?_, ?_, ?_, trivial⟩
    · intro X L H wI hS hd K hK
      have hS0 := hide hS
      (try dsimp only at hS)
      simp only [putAll, Act.put, List.setIfInBounds_toArray, List.set_cons_zero, List.set_cons_succ]
      go_simp
      refine hK _ _ wI.heap.size wI.heap.size _ ?_ (Nat.le_refl _) (Nat.le_refl _) (Nat.le_refl _) (Below.refl _ _) hS0.out rfl
      simp only [putAll, Act.put, List.setIfInBounds_toArray, List.set_cons_zero, List.set_cons_succ]
    · intro X L H wI hS hd K hK
      have hS0 := hide hS
      (try dsimp only at hS)
      simp only [putAll, Act.put, List.setIfInBounds_toArray, List.set_cons_zero, List.set_cons_succ]
      go_simp
      refine hK _ _ wI.heap.size wI.heap.size _ ?_ (Nat.le_refl _) (Nat.le_refl _) (Nat.le_refl _) (Below.refl _ _) hS0.out rfl
      simp only [putAll, Act.put, List.setIfInBounds_toArray, List.set_cons_zero, List.set_cons_succ]
    · intro X L H wI hS hd K hK
      have hS0 := hide hS
      (try dsimp only at hS)
      simp only [putAll, Act.put, List.setIfInBounds_toArray, List.set_cons_zero, List.set_cons_succ]
      go_simp
      refine hK _ _ wI.heap.size wI.heap.size _ ?_ (Nat.le_refl _) (Nat.le_refl _) (Nat.le_refl _) (Below.refl _ _) hS0.out rfl
      simp only [putAll, Act.put, List.setIfInBounds_toArray, List.set_cons_zero, List.set_cons_succ]
    · intro X L H wI hS hd K hK
      have hS0 := hide hS
      (try dsimp only at hS)
      simp only [putAll, Act.put, List.setIfInBounds_toArray, List.set_cons_zero, List.set_cons_succ]
      go_simp
      refine hK _ _ wI.heap.size wI.heap.size _ ?_ (Nat.le_refl _) (Nat.le_refl _) (Nat.le_refl _) (Below.refl _ _) hS0.out rfl
      simp only [putAll, Act.put, List.setIfInBounds_toArray, List.set_cons_zero, List.set_cons_succ]
    · intro X L H wI hS hd K hK
      have hS0 := hide hS
      (try dsimp only at hS)
      simp only [putAll, Act.put, List.setIfInBounds_toArray, List.set_cons_zero, List.set_cons_succ]
      go_simp
      refine hK _ _ wI.heap.size wI.heap.size _ ?_ (Nat.le_refl _) (Nat.le_refl _) (Nat.le_refl _) (Below.refl _ _) hS0.out rfl
      simp only [putAll, Act.put, List.setIfInBounds_toArray, List.set_cons_zero, List.set_cons_succ]
    · intro X L H wI hS hd K hK
      (try have h4 : X 4 = _ := hd 4 (by kernel_rfl))
      have hS0 := hide hS
      (try dsimp only at hS)
      simp only [putAll, Act.put, List.setIfInBounds_toArray, List.set_cons_zero, List.set_cons_succ]
      (go_simp; go_at_call 131; refine (wkey_any ra rb _).mono ?_; rintro e wK ⟨rfl, rfl⟩; exact hK _ _ wI.heap.size (wI.heap.size + 1) _ (by simp only [putAll, Act.put, List.setIfInBounds_toArray, List.set_cons_zero, List.set_cons_succ, h4]) (Nat.le_refl _) (by omega) (by simp) ((Below.refl _ _).alloc (Nat.le_refl _) _) (key1.out _ (hS0.out.1.alloc hS0.out.2.2.2.2.2 _)) ⟨rfl, by simp [go_sem], by simp [go_sem]⟩)
    · intro X L H wI hS hd K hK
      (try have h0 : X 0 = _ := hd 0 (by kernel_rfl))
      (try have h1 : X 1 = _ := hd 1 (by kernel_rfl))
      (try have h2 : X 2 = _ := hd 2 (by kernel_rfl))
      (try have h3 : X 3 = _ := hd 3 (by kernel_rfl))
      (try have h5 : X 5 = _ := hd 5 (by kernel_rfl))
      have hS0 := hide hS
      (try dsimp only at hS)
      simp only [putAll, Act.put, List.setIfInBounds_toArray, List.set_cons_zero, List.set_cons_succ]
      (obtain ⟨h5', c50, c51⟩ := hd 5 (by kernel_rfl); go_simp; go_at_call 92; refine (hSe.out _ (L 5) (hb4.out.trans (hS0.out.1.mono (by omega))) c50 c51).mono ?_; rintro e wF ⟨fa, m, fc, fb, k, fd, rfl, rfl, rfl, oX, oY, hbF⟩; refine hK _ _ wI.heap.size wF.heap.size _ ?_ (Nat.le_refl _) hbF.size (Nat.le_refl _) hbF (key1.out _ (hS0.out.1.trans (hbF.mono hS0.out.2.2.2.2.2))) ⟨fa, fc, fb, fd, rfl, oX.base_le hS0.out.2.2.2.2.2, oY.base_le hS0.out.2.2.2.2.2⟩; simp only [putAll, Act.put, List.setIfInBounds_toArray, List.set_cons_zero, List.set_cons_succ, h0, h1, h2, h3, h5'])
    · intro X L H wI hS hd K hK
      (try have h6 : X 6 = _ := hd 6 (by kernel_rfl))
      have hS0 := hide hS
      (try dsimp only at hS)
      simp only [putAll, Act.put, List.setIfInBounds_toArray, List.set_cons_zero, List.set_cons_succ]
      (obtain ⟨fa, fc, fb, fd, h6', oX, oY⟩ := hd 6 (by kernel_rfl); go_simp; refine hK _ _ wI.heap.size wI.heap.size _ ?_ (Nat.le_refl _) (Nat.le_refl _) (Nat.le_refl _) (Below.refl _ _) hS0.out ⟨fa, fc, fb, fd, rfl, oX, oY⟩; simp only [putAll, Act.put, List.setIfInBounds_toArray, List.set_cons_zero, List.set_cons_succ, h6'])
    · intro X L H wI hS hd K hK
      (try have h6 : X 6 = _ := hd 6 (by kernel_rfl))
      have hS0 := hide hS
      (try dsimp only at hS)
      simp only [putAll, Act.put, List.setIfInBounds_toArray, List.set_cons_zero, List.set_cons_succ]
      (obtain ⟨fa, fc, fb, fd, h6', oX, oY⟩ := hd 6 (by kernel_rfl); go_simp; refine hK _ _ wI.heap.size wI.heap.size _ ?_ (Nat.le_refl _) (Nat.le_refl _) (Nat.le_refl _) (Below.refl _ _) hS0.out rfl; simp only [putAll, Act.put, List.setIfInBounds_toArray, List.set_cons_zero, List.set_cons_succ, h6'])
  case hend =>
    intro X L H wI hS hF hP
    (obtain ⟨fa, fc, fb, fd, f7, oX, oY⟩ := (hF 7 (by omega)).1; have f8 : X 8 = _ := (hF 8 (by omega)).1; have hbI := hS.1; clear hS hF hP; replace oX := hide oX; replace oY := hide oY; have k0 := cu_below hbI k0 (by first | omega | (simp; done) | (simp; omega)); have k1 := cu_below hbI k1 (by first | omega | (simp; done) | (simp; omega)); have k2 := cu_below hbI k2 (by first | omega | (simp; done) | (simp; omega)); have f0 := fu_below hbI f0 (by first | omega | (simp; done) | (simp; omega)); have f1 := fu_below hbI f1 (by first | omega | (simp; done) | (simp; omega)); have f2 := fu_below hbI f2 (by first | omega | (simp; done) | (simp; omega)); have hb5 := hide (hb4.out.trans (hbI.mono (by omega))); have hzI : w.heap.size + 1 + 1 < wI.heap.size := cell_lt k0; clear hbI)
    simp only [putAll, Act.put, List.setIfInBounds_toArray, List.set_cons_zero, List.set_cons_succ, f7, f8]
    change wpAny _ _ _ _ (1 + 1) _ _ _
    refine wpAny_ready (rs := [9]) (by kernel_rfl) (by simp) (AllReady.cons rfl (fun K hK => ?_) AllReady.nil)
    go_simp
    refine hK _ _ ?_
    clear hK K
    change wpAny _ _ _ _ (0 + 1) _ _ _
    refine wpAny_ready (rs := [10]) (by kernel_rfl) (by simp) (AllReady.cons rfl (fun K hK => ?_) AllReady.nil)
    go_simp
    refine hK _ _ ?_
    clear hK K
    refine wpAny_done (by kernel_rfl) ?_ _
    go_wp2_with fail
    refine bodyPost_ret (v := .tuple #[.agg #[.slice fa xs.length fc, .int .i64 cost, .slice fb ys.length fd], .int .i64 er]) (by simp [results, Try.results58, go_sem, k0, k1, k2, f0, f1, f2]) rfl ?_
    refine ⟨fa, _, fc, fb, _, fd, rfl, rfl, rfl, ?_, ?_, ?_⟩
    · exact (((oX.out.setCell (by first | omega | (simp; done) | (simp; omega)) _).setCell (by first | omega | (simp; done) | (simp; omega)) _).setCell (by first | omega | (simp; done) | (simp; omega)) _).base_le (by omega)
    · exact (((oY.out.setCell (by first | omega | (simp; done) | (simp; omega)) _).setCell (by first | omega | (simp; done) | (simp; omega)) _).setCell (by first | omega | (simp; done) | (simp; omega)) _).base_le (by omega)
    · exact ((hb5.out.setCell (by first | omega | (simp; done) | (simp; omega)) _).setCell (by first | omega | (simp; done) | (simp; omega)) _).setCell (by first | omega | (simp; done) | (simp; omega)) _
end Go.Proofs.Ytcehdpeeaogpiaa
