/-
  What yen.K finds: the first ways in order. Conditions: a right net of costs above 0, places of it, 1 to 8 ways.
-/
import Derived.Test.YtcehdpeeaogpiaaYenS
import Derived.Test.YtcehdpeeaogpiaaYenO
import Derived.Test.YtcehdpeeaogpiaaYenC
import Derived.Test.YtcehdpeeaogpiaaROut
import Derived.Deep.LoopGhost
import Derived.Deep.DeepCutAuto
namespace Go.Proofs.Ytcehdpeeaogpiaa
open Go.RowKit
set_option linter.unusedSimpArgs false
set_option linter.unusedVariables false
/-- what K returns -/
def KBack (es : List Ed) (s t k : Nat) (w : World) (e : Ending) (w' : World) : Prop :=
  Below w.heap.size w w' ∧ ∃ (ao : Option Addr) (co : Nat) (xs : List Yv) (wait : List Wy), YI (YW es s t) (xs.map Yv.wy) wait ∧ (xs.map Yv.wy).Pairwise (fun a b => yLt a b = true) ∧ (xs.length = k ∨ wait = []) ∧ xs.length ≤ k ∧
    Own encY 2 36 w' w.heap.size (.slice ao xs.length co) xs ∧ (∀ x ∈ xs, PB w' x) ∧ (xs.length = 0 → e = .returned (.tuple #[.slice none 0 0, .int .i64 5])) ∧ (xs.length ≠ 0 → e = .returned (.tuple #[.slice ao xs.length co, .int .i64 0]))
theorem Row.takeI {w : World} {B : Nat} {a : Option Addr} {p : List Nat} (h : Row encI 1 w B a (NI p)) (i : Nat) : Row encI 1 w B a (NI (p.take i)) := by
  intro j hj
  have hj2 : j < (NI p).length := by rw [ni_len] at hj ⊢; rw [List.length_take] at hj; omega
  obtain ⟨b', o', q1, q2, q3⟩ := h j hj2
  refine ⟨b', o', q1, q2, fun z u' hz => q3 z u' ?_⟩
  rw [← hz]
  congr 2
  simp only [NI, List.getElem_map, List.getElem_take]
theorem own_rowY {e : TypeId} {w : World} {base n c : Nat} {a : Option Addr} {xs : List Yv} (h : Own encY 2 e w base (.slice a n c) xs) : Row encY 2 w w.heap.size a xs := by
  obtain ⟨a', c', hv, hr, _⟩ := h.row lenY
  injection hv with q1 q2 q3
  subst q1
  exact hr
set_option maxRecDepth 100000 in
set_option maxHeartbeats 4000000 in
theorem kgood_any (n : Nat) (a : Option Addr) (cap : Nat) (es : List Ed) (s t k : Nat) (w : World) (B : Nat) (hB : B ≤ w.heap.size) (hE : Row encE 3 w B a es) (hlk : lookErr (n : Int) es [(s : Int), (t : Int)] = 0) (hk1 : 1 ≤ k) (hk8 : k ≤ 8) (hne : netErr (n : Int) es = 0) (hp : ∀ e ∈ es, 1 ≤ e.c) :
    Calls Try.prog 73 #[.agg #[.int .i64 (n : Int), .slice a es.length cap], .int .i64 (s : Int), .int .i64 (t : Int), .int .i64 (k : Int)] w (KBack es s t k w) := by
  obtain ⟨n1, n2, n3, n4⟩ := netErr_ok hne
  have hes : Right n es := fun e he => by have := n4 e he; omega
  obtain ⟨hs, ht⟩ : s < n ∧ t < n := by
    have h1 := (look_ok hlk).2
    have h2 := h1 (s : Int) (by simp)
    have h3 := h1 (t : Int) (by simp)
    omega
  have hLook := hide (fun (w' : World) (a1 : Option Addr) (hb : Below w.heap.size w w') (hr : Row encI 1 w' w'.heap.size a1 [(s : Int), (t : Int)]) => (show Calls Try.prog 23 #[.agg #[.int .i64 (n : Int), .slice a es.length cap], .slice a1 2 2] w' (fun e w'' => e = .returned (.int .i64 0) ∧ Below w'.heap.size w' w'') from by
    have h := look_any (n : Int) a cap es a1 2 2 [(s : Int), (t : Int)] rfl w' w'.heap.size (Nat.le_refl _) ((hE.below hb hB).mono (by have := hb.size; omega)) hr (by omega) (by omega)
    rw [hlk] at h
    exact h))
  have hOn := hide (fun (w' : World) (ab : Option Addr) (m cb : Nat) (b0 : List Nat) (u : Nat) (an : Option Addr) (q cn : Nat) (no : List Nat) (hb : Below w.heap.size w w') (h1 : Row encI 1 w' w'.heap.size ab (NI (b0 ++ [u]))) (h2 : Row encI 1 w' w'.heap.size an (NI no)) (h3 : b0.length + 1 = m) (h4 : no.length = q) (h5 : q ≤ 1000) (h6 : m ≤ cb) (h7 : cb ≤ 9223372036854775807) (h8 : ∃ r, b0 ++ [u] = s :: r) (h9 : (b0 ++ [u]).Nodup) (h10 : Lnk (nes es) (b0 ++ [u])) =>
    onward_any n a cap es ab m cb b0 u t s an q cn no w' w'.heap.size (Nat.le_refl _) ((hE.below hb hB).mono (by have := hb.size; omega)) h1 h2 h3 h4 h5 hne hp hs ht h6 h7 h8 h9 h10)
  have hW := hide (fun (b0 no : List Nat) (u : Nat) => onw_is (n := n) (s := s) (t := t) (u := u) (es := es) (b0 := b0) (no := no) (by omega) hes hp hs ht)
  have hW0 := hide (onw_start (n := n) (s := s) (t := t) (es := es) (by omega) hes hp hs ht)
  have hSl := hide (fun (p : List Nat) (h : Sim (nes es) s t p) => (sim_len hes hs h).1)
  replace hE := hide hE
  replace hes := hide hes
  replace hp := hide hp
  replace hne := hide hne
  replace hlk := hide hlk
  clear n4
  have hk1' : ¬ ((k : Int) < 1) := by omega
  have hk8' : ¬ ((8 : Int) < (k : Int)) := by omega
  go_enter Try.func73, Try.ntmps73
  go_wp2_with fail
  refine (hLook.out _ _ (by repeat (first | with_reducible exact Below.refl _ _ | with_reducible assumption | with_reducible refine up_drewN ?_ | with_reducible refine up_drew ?_ | (with_reducible refine up_alloc ?_ ?_; rotate_left; (first | omega | (simp <;> omega) | simp)) | (with_reducible refine up_set ?_ ?_; rotate_left; (first | omega | (simp <;> omega) | simp)) | (with_reducible refine Below.trans ?_ (Below.mono (by with_reducible assumption) ?_); rotate_left; (first | omega | (simp <;> omega) | simp)))) (by
    intro i hi
    match i, hi with
    | 0, _ => exact ⟨_, 0, rfl, by simp, fun j u hu => by cases j with | zero => simp [encI] at hu; subst hu; simp [go_sem] | succ j => simp [encI] at hu⟩
    | 1, _ => exact ⟨_, 0, rfl, by simp, fun j u hu => by cases j with | zero => simp [encI] at hu; subst hu; simp [go_sem] | succ j => simp [encI] at hu⟩)).mono ?_
  rintro e w1 ⟨rfl, hb1⟩
  have hB1 := hide (show Below w.heap.size w w1 from (by repeat (first | with_reducible exact Below.refl _ _ | with_reducible assumption | with_reducible refine up_drewN ?_ | with_reducible refine up_drew ?_ | (with_reducible refine up_alloc ?_ ?_; rotate_left; (first | omega | (simp <;> omega) | simp)) | (with_reducible refine up_set ?_ ?_; rotate_left; (first | omega | (simp <;> omega) | simp)) | (with_reducible refine Below.trans ?_ (Below.mono (by with_reducible assumption) ?_); rotate_left; (first | omega | (simp <;> omega) | simp)))))
  have hz1 : w.heap.size < w1.heap.size := by have := hb1.size; simp at this; omega
  have x0 : w1.cell? ⟨w.heap.size, 0, none⟩ = some (.int .i64 n) := cu_below hb1 (by simp [go_sem]) (by simp; omega)
  have x1 : w1.cell? ⟨w.heap.size, 1, none⟩ = some (.slice a es.length cap) := cu_below hb1 (by simp [go_sem]) (by simp; omega)
  clear hLook hb1
  go_wp2_with fail
  refine (newY_any 147 w1).mono ?_
  rintro e w2 ⟨rfl, hw2⟩
  obtain ⟨g, hg⟩ : ∃ g, g = w1.heap.size := ⟨_, rfl⟩
  have hK0 : KI (.func (.func 147) #[] #[]) w g n a es.length cap (.slice none 0 0) 0 (fun _ => ⟨none, 0, 0, 0, []⟩) (.slice none 0 0) [] w2 := by
    subst hw2
    have hb2 : Below w1.heap.size w1 (w1.alloc (.cells #[.func (.func 147) #[] #[], .slice none 0 0] 232)) := up_alloc (Below.refl _ _) (Nat.le_refl _)
    refine ⟨hB1.out.trans (hb2.mono (by omega)), cu_below hb2 x0 (by simp; omega), cu_below hb2 x1 (by simp; omega), ⟨by omega, by rw [hg]; simp, by rw [hg]; simp [go_sem], by rw [hg]; simp [go_sem], by rw [hg]; simp [go_sem], Own.nil _ _, by simp [Value.ownBlock]⟩, Own.nil _ _, by simp [Value.ownBlock], by simp [Value.ownBlock], fun i hi => absurd hi (by omega), fun x hx => (by cases hx)⟩
  simp only [← hg]
  replace hK0 := hide hK0
  replace hw2 := hide hw2
  have hgz : w1.heap.size < w2.heap.size := by rw [← hg]; exact hK0.out.hp.lt
  have y0 := hK0.out.x0
  have y1 := hK0.out.x1
  have yz := cell_lt y0
  simp only at yz
  clear x0 x1
  replace hg := hide hg
  -- the first way
  go_upto_region 7 with fail
  have hO1 := hide (hOn.out (w2.alloc (.cells #[.int .i64 (s : Int)] 3)) (some ⟨w2.heap.size, 0, none⟩) 1 1 [] s none 0 0 [] (up_alloc hK0.out.bel hK0.out.bel.size) (by
    intro i hi
    obtain rfl : i = 0 := by simp [NI] at hi; exact hi
    exact ⟨_, 0, rfl, by simp, fun j u hu => by cases j with | zero => simp [encI, NI] at hu; subst hu; simp [go_sem] | succ j => simp [encI] at hu⟩) (Row.nil _ _ _ _ _) rfl rfl (by omega) (Nat.le_refl _) (by omega) ⟨[], rfl⟩ (by simp) (by simp [Lnk]))
  go_cut [12, 13] (fun s12 s13 wx => ∃ (ok : Bool) (y : Yv) (bx : Nat), s12 = .pointer (some ⟨bx, 0, none⟩) ∧ s13 = .bool ok ∧ Hid (KI (.func (.func 147) #[] #[]) w g n a es.length cap (.slice none 0 0) 0 (fun _ => ⟨none, 0, 0, 0, []⟩) (.slice none 0 0) [] wx) ∧ Hid (ok = true → GY (AK g (.slice none 0 0) (.slice none 0 0)) wx y ∧ YW es s t y.wy ∧ ∀ z, YW es s t z → yLt z y.wy = false) ∧ Hid (ok = false → ∀ z, ¬ YW es s t z) ∧ wx.cell? ⟨bx, 0, none⟩ = some (.slice y.a y.n y.c) ∧ wx.cell? ⟨bx, 1, none⟩ = some (.int .i64 y.k))
  case first =>
    go_wp2_with fail
    refine (hO1.out).mono ?_
    rintro e w3 ⟨hb3, hans⟩
    have hb23 := hide ((up_alloc (Below.refl w2.heap.size w2) (Nat.le_refl _) : Below w2.heap.size w2 (w2.alloc (.cells #[.int .i64 (s : Int)] 3))).trans (hb3.mono (by simp)))
    have hK3 := hide (hK0.out.stays hb23.out)
    rcases hans with ⟨hF, rfl⟩ | ⟨hF, gg, y, hgr, hyp, hyk, rfl, hPB, hnew⟩
    · have hno := hide (hW0.out.1 hF)
      have hK4 := hide (fun (o : Obj) => hK3.out.stays (up_alloc (Below.refl _ _) (Nat.le_refl _) : Below w3.heap.size w3 (w3.alloc o)))
      clear hO1 hb3
      go_wp2
      go_meet
      case rel => exact ⟨false, ⟨none, 0, 0, 0, []⟩, w3.heap.size, rfl, rfl, hide (hK4.out _), hide (fun h => by cases h), hide (fun _ => hno.out), by simp [go_sem], by simp [go_sem]⟩
    · have hyes := hide (hW0.out.2 gg hF hgr)
      have hK4 := hide (fun (o : Obj) => hK3.out.stays (up_alloc (Below.refl _ _) (Nat.le_refl _) : Below w3.heap.size w3 (w3.alloc o)))
      have hlt := hK0.out.hp.lt
      have hwy := hide (show y.wy = ⟨pcost es (s :: gg), s :: gg⟩ by unfold Yv.wy; rw [hyk, hyp]; rfl)
      have hG := hide (fun (o : Obj) => (show GY (AK g (.slice none 0 0) (.slice none 0 0)) (w3.alloc o) y from by
        obtain ⟨b, o2, e1, e2, _⟩ := hPB.row 0 (by rw [ni_len, hyp]; simp)
        have hn := hnew _ e1
        have hnb : ¬ AK g (.slice none 0 0) (.slice none 0 0) b := by
          rintro (e | e | e)
          · subst e
            have h7 : w2.heap.size ≤ b := by have h8 := hn; simp at h8; omega
            omega
          · cases e
          · cases e
        exact GY.stays ⟨hPB, b, o2, e1, e2, hnb⟩ (up_alloc (Below.refl _ _) (Nat.le_refl _))))
      clear hO1 hb3 hPB hnew
      replace hgr := hide hgr
      replace hyp := hide hyp
      replace hyk := hide hyk
      replace hF := hide hF
      go_wp2
      go_meet
      case rel => exact ⟨true, y, w3.heap.size, rfl, rfl, hide (hK4.out _), hide (fun _ => ⟨hG.out _, by rw [hwy.out]; exact hyes.out.1, by rw [hwy.out]; exact hyes.out.2⟩), hide (fun h => by cases h), by simp [go_sem], by simp [go_sem]⟩
  case rest =>
    obtain ⟨ok, y, bx, rfl, rfl, hK, hyes, hno, cx0, cx1⟩ := hcut
    clear hO1 hK0 y0 y1 yz hw2 hgz
    go_upto_if 46 with fail
    go_cut [] (fun wx => ∃ (q : Nat) (a1 : Option Addr) (c1 : Nat) (f : Nat → Yv), q ≤ 1 ∧ Hid (KI (.func (.func 147) #[] #[]) w g n a es.length cap (.slice a1 q c1) q f (.slice none 0 0) [] wx) ∧ Hid (YI (YW es s t) [] ((RW q f).map Yv.wy)) ∧ Hid (HeapOK yvLt q f))
    case first =>
      cases ok with
      | false =>
        have hKx := hK
        have hno2 := hide (hno.out rfl)
        go_wp2
        go_meet
        case rel => exact ⟨0, none, 0, fun _ => ⟨none, 0, 0, 0, []⟩, by omega, hKx, hide (yi_start (by simp [RW]) (fun z hz => absurd hz (hno2.out z))), hide (fun i h1 h2 => by omega)⟩
      | true =>
        obtain ⟨hG, hY, hL⟩ := hyes.out rfl
        have hGP : ∀ i, i < 0 + 1 → PB wc (upz (fun _ => (⟨none, 0, 0, 0, []⟩ : Yv)) 0 y i) ∧ Apt (fun k => k = g ∨ (Value.slice none 0 0).ownBlock = some k) (upz (fun _ => (⟨none, 0, 0, 0, []⟩ : Yv)) 0 y i) := fun i hi => by
          obtain rfl : i = 0 := by omega
          rw [upz_same]
          exact ⟨hG.1, hG.apt (fun b hb => hb.elim .inl (fun h => .inr (.inl h)))⟩
        have hPush := hide (pushY_any (w.heap.size + 1) g 0 none 0 (fun _ => ⟨none, 0, 0, 0, []⟩) y wc hK.out.hp (by omega) hGP)
        obtain ⟨q1, q2⟩ := push_ok yvLt_ord (n := 0) (f := fun _ => (⟨none, 0, 0, 0, []⟩ : Yv)) (fun i h1 h2 => by omega) y
        replace q1 := hide q1
        replace q2 := hide q2
        replace hG := hide hG
        replace hY := hide hY
        replace hL := hide hL
        clear hGP
        generalize siftUp yvLt (upz (fun _ => (⟨none, 0, 0, 0, []⟩ : Yv)) 0 y) 0 = f2 at hPush q1 q2
        have zx := cell_lt cx0
        go_wp2_with fail
        refine hPush.out.mono ?_
        rintro e w4 ⟨rfl, hP⟩
        obtain ⟨gs, c, hK5, _⟩ := hK.out.push hG.out hP q2.out
        replace hK5 := hide hK5
        replace hP := hide hP
        go_wp2
        go_meet
        case rel =>
          have hmem : ∀ z, z ∈ (RW (0 + 1) f2).map Yv.wy ↔ z = y.wy := fun z => by
            rw [(q2.out.map Yv.wy).mem_iff]
            simp [RW]
          refine ⟨0 + 1, _, _, f2, by omega, hK5, hide (yi_start (fun x hx => ?_) (fun z hz => ⟨y.wy, (hmem _).2 rfl, hL.out z hz⟩)), q1⟩
          rw [(hmem x).1 hx]
          exact hY.out
    case rest =>
      clear hK hyes hno cx0 cx1
      obtain ⟨q, a1, c1, f, hq1, hK, hY, hO⟩ := hcut
      go_wp2_with fail
      go_loopg [14] (1 + 66 * k) (fun gk s14 wr => ∃ (q : Nat) (a1 : Option Addr) (c1 : Nat) (f : Nat → Yv) (kx : Nat) (ao : Option Addr) (co : Nat) (xs : List Yv), s14 = .slice ao kx co ∧ kx ≤ k ∧ q ≤ 64 * kx + 1 ∧ q + 66 * (k - kx) ≤ gk ∧ Hid (xs.length = kx) ∧ Hid (KI (.func (.func 147) #[] #[]) w g n a es.length cap (.slice a1 q c1) q f (.slice ao kx co) xs wr) ∧ Hid (YI (YW es s t) (xs.map Yv.wy) ((RW q f).map Yv.wy)) ∧ Hid ((xs.map Yv.wy).Pairwise (fun a b => yLt a b = true)) ∧ Hid (HeapOK yvLt q f))
      case atStart => exact ⟨q, a1, c1, f, 0, none, 0, [], rfl, by omega, by omega, by omega, hide rfl, hK, hY, hide (by simp), hO⟩
      case round =>
        clear hK hY hO
        obtain ⟨q, a1, c1, f, kx, ao, co, xs, rfl, hkx, hq2, hqm, hxl, hK, hY, hD, hO⟩ := hrel
        have hc1 := hK.out.hp.c1
        -- the ends
        have hfin := hide (fun (h : kx = k ∨ q = 0) => (show KBack es s t k w (.returned (if kx = 0 then .tuple #[.slice none 0 0, .int .i64 5] else .tuple #[.slice ao kx co, .int .i64 0])) wr from by
          refine ⟨hK.out.bel, ao, co, xs, (RW q f).map Yv.wy, hY.out, hD.out, ?_, by rw [hxl.out]; exact hkx, by rw [hxl.out]; exact hK.out.ou.base_le (by omega), fun x hx => (hK.out.go x hx).1, fun h0 => ?_, fun h0 => ?_⟩
          · rcases h with h | h
            · left; rw [hxl.out]; exact h
            · right; subst h; rfl
          · rw [hxl.out] at h0; rw [if_pos h0]
          · rw [hxl.out] at h0; rw [if_neg h0, hxl.out]))
        have hstop : kx = k ∨ q = 0 ∨ (kx < k ∧ 0 < q) := by omega
        by_cases hq0 : q = 0
        · have hres := hide (hfin.out (.inr hq0))
          subst hq0
          clear hstop hfin
          go_wp2_with fail
          refine (lenY_any _ _ _ _ _ hc1).mono ?_
          rintro e w5 ⟨rfl, rfl⟩
          by_cases h0 : kx = 0
          · have hq9 : ((kx : Int) == 0) = true := by simp [h0]
            have hr := hres.out
            rw [if_pos h0] at hr
            replace hr := hide hr
            replace h0 := hide h0
            clear hres
            go_wp2
            refine bodyPost_ret (v := .tuple #[.slice none 0 0, .int .i64 5]) (by simp [results, Try.results73, go_sem]) rfl hr.out
          · have hq9 : ((kx : Int) == 0) = false := by simp [h0]
            have hr := hres.out
            rw [if_neg h0] at hr
            replace hr := hide hr
            replace h0 := hide h0
            clear hres
            go_wp2
            refine bodyPost_ret (v := .tuple #[.slice ao kx co, .int .i64 0]) (by simp [results, Try.results73, go_sem]) rfl hr.out
        · obtain ⟨q0, rfl⟩ : ∃ q0, q = q0 + 1 := ⟨q - 1, by omega⟩
          have hqp : (0 : Int) < ((q0 + 1 : Nat) : Int) := by omega
          by_cases hkk : kx = k
          · have hr := hfin.out (.inl hkk)
            rw [if_neg (by omega)] at hr
            have hq9 : ((kx : Int) == 0) = false := by simp; omega
            have hq8 : ((kx : Int) < (k : Int)) = False := by simp; omega
            replace hr := hide hr
            replace hkk := hide hkk
            clear hfin hstop
            go_wp2_with fail
            refine (lenY_any _ _ _ _ _ hc1).mono ?_
            rintro e w5 ⟨rfl, rfl⟩
            go_wp2
            refine bodyPost_ret (v := .tuple #[.slice ao kx co, .int .i64 0]) (by simp [results, Try.results73, go_sem]) rfl hr.out
          · have hq8 : (kx : Int) < (k : Int) := by omega
            clear hfin hstop
            obtain ⟨gs, rfl, hgs1, hgs2⟩ := hK.out.hp.own.blockI' (by omega)
            have hPop := popY_any (w.heap.size + 1) g q0 gs c1 f wr hK.out.hp (by omega) (fun i hi => ⟨(hK.out.gh i hi).1, (hK.out.gh i hi).apt (fun b hb => hb.elim .inl (fun h => .inr (.inl (by simp [Value.ownBlock, h]))))⟩)
            obtain ⟨p1, p2⟩ := pop_ok yvLt_ord hO.out
            have hmin := hide (show ∀ x ∈ (RW (q0 + 1) f).map Yv.wy, yLt x (f 0).wy = false from fun x hx => by
              obtain ⟨z, hz, rfl⟩ := List.mem_map.1 hx
              obtain ⟨i, hi, rfl⟩ := List.mem_map.1 (by rw [RW] at hz; exact hz)
              exact heap_top yvLt_ord hO.out i (List.mem_range.1 hi))
            have hKp := hide (fun w' f' h1 h2 h3 => hK.out.pop (w' := w') (f' := f') h1 h2 h3)
            generalize siftDown yvLt q0 (upz f 0 (f q0)) 0 = f2 at hPop p1 p2
            have hGm := hK.out.gh 0 (by omega)
            have hYm := hide (hY.out.wS (f 0).wy (List.mem_map.2 ⟨f 0, by rw [RW]; exact List.mem_map.2 ⟨0, List.mem_range.2 (by omega), rfl⟩, rfl⟩))
            obtain ⟨y, hy⟩ : ∃ y, y = f 0 := ⟨_, rfl⟩
            rw [← hy] at hPop p2 hmin hGm hYm hKp
            replace hy := hide hy
            obtain ⟨ya, yn, yc, yk, yp⟩ := y
            obtain ⟨hPBm, bm, om, hbm, hbl, hAm⟩ := hGm
            simp only at hbm
            subst hbm
            replace hPop := hide hPop
            replace p1 := hide p1
            replace p2 := hide p2
            go_wp2_with fail
            refine (lenY_any _ _ _ _ _ hc1).mono ?_
            rintro e w5 ⟨rfl, rfl⟩
            go_wp2_with fail
            refine hPop.out.mono ?_
            rintro e w5 ⟨rfl, hH5, hK5⟩
            obtain ⟨hI5, hG5⟩ := hKp.out w5 f2 hH5 hK5 p2.out
            clear hPop hKp hH5 hK5 hc1
            obtain ⟨w6, hw6⟩ : ∃ w6, w6 = w5.alloc (.cells #[.slice (some ⟨bm, om, none⟩) yn yc, .int .i64 yk] 36) := ⟨_, rfl⟩
            have hb56 : Below w5.heap.size w5 w6 := by rw [hw6]; exact up_alloc (Below.refl _ _) (Nat.le_refl _)
            have hI6 := hI5.stays hb56
            have hG6 := hG5.stays hb56
            have t0 : w6.cell? ⟨w5.heap.size, 0, none⟩ = some (.slice (some ⟨bm, om, none⟩) yn yc) := by rw [hw6]; simp [go_sem]
            have t1 : w6.cell? ⟨w5.heap.size, 1, none⟩ = some (.int .i64 yk) := by rw [hw6]; simp [go_sem]
            have tA : ¬ AK g (.slice (some ⟨gs, 0, none⟩) q0 c1) (.slice ao kx co) w5.heap.size := fun e => by have := (hI5.old _ e).2; omega
            obtain ⟨bv, hbv⟩ : ∃ bv, bv = w5.heap.size := ⟨_, rfl⟩
            rw [← hbv] at t0 t1 tA
            obtain ⟨tt, htt⟩ : ∃ tt, tt = xs.any (fun x => decide (x.p = yp)) := ⟨_, rfl⟩
            have hHas := hide (hasK_any ⟨some ⟨bm, om, none⟩, yn, yc, yk, yp⟩ bv ao co kx xs w6 w6.heap.size (Nat.le_refl _) hxl.out (own_rowY hI6.ou) (fun x hx => (hI6.go x hx).1) hG6.1 t0 (by omega) tt htt)
            have hin := hide (show tt = true ↔ (⟨yk, yp⟩ : Wy) ∈ xs.map Yv.wy from by
              rw [htt, List.any_eq_true, yw_mem (m := ⟨yk, yp⟩) hY.out.oS hYm.out]
              constructor
              · rintro ⟨x, hx, h⟩; exact ⟨x.wy, List.mem_map.2 ⟨x, hx, rfl⟩, of_decide_eq_true h⟩
              · rintro ⟨x, hx, h⟩
                obtain ⟨z, hz, rfl⟩ := List.mem_map.1 hx
                exact ⟨z, hz, decide_eq_true h⟩)
            have hz6 := cell_lt t0
            have hpw := hide (show ((⟨yk, yp⟩ : Wy) :: (RW q0 f2).map Yv.wy).Perm ((RW (q0 + 1) f).map Yv.wy) from p2.out.map Yv.wy)
            replace hI6 := hide hI6
            replace hG6 := hide hG6
            replace htt := hide htt
            clear hI5 hG5 hb56 hPBm hAm hK hO p2
            go_wp2_with fail
            simp only [← hw6]
            simp only [← hbv]
            replace hw6 := hide hw6
            replace hbv := hide hbv
            refine hHas.out.mono ?_
            rintro e w7 ⟨rfl, hb7⟩
            have hI7 := hide (hI6.out.stays hb7)
            have hG7 := hide (hG6.out.stays hb7)
            have t07 := cu_below hb7 t0 hz6
            have t17 := cu_below hb7 t1 hz6
            have hz7 := cell_lt t07
            clear hHas hb7 hI6 hG6 t0 t1
            cases tt with
            | true =>
              have hY2 := hide (yi_skip (yw_ys es s t) hY.out hpw.out (hin.out.1 rfl))
              go_wp2
              go_roundg (gk - 1)
              case measure => omega
              case rel => exact ⟨q0, _, _, f2, kx, ao, co, xs, rfl, by omega, by omega, by omega, hxl, hI7, hY2, hD, p1⟩
            | false =>
              have hni := hide (show (⟨yk, yp⟩ : Wy) ∉ xs.map Yv.wy from fun h => by have := hin.out.2 h; cases this)
              clear hin
              have hbs7 : w.heap.size + 1 ≤ w7.heap.size := by have h1 := hI7.out.hp.bg; have h2 := hI7.out.hp.lt; omega
              go_wp2_with (at_builtin; (refine wpList_pushL (e := 36) (enc := encY) (xs := xs) (v := .slice ao (kx) co) (base := w.heap.size + 1) rfl (.tmp 64) (.tmp 66) 117 rfl _ 32 Try.underlying117 info_way rfl ?d18 lenY oneY (kx) ?d28 ?d38 ?d48 ⟨w7.heap.size, 0, none⟩ 1 ⟨some ⟨bm, om, none⟩, yn, yc, yk, yp⟩ ?d58 ?d68 ?d78 ?d88 ?d98 ?_); (case d18 => omega); (case d28 => exact hxl.out); (case d38 => rfl); (case d48 => exact (hI7.out.ou.alloc _)); (case d58 => rfl); (case d68 => exact newY _ _ _ _ rfl); (case d78 => omega); (case d88 => unfold maxLen; omega); (case d98 => first | omega | (simp; done) | (simp; omega)); intro g8 c8 w8 own8 hb8 hgr8 hat8 hgl8)
              have hK8 : Keep (fun j => (Value.slice ao kx co).ownBlock = some j) w7 w8 := ((Keep.refl _ w7).alloc _).grown hgr8 (fun j hj => .inl hj)
              obtain ⟨hI8, hS8⟩ := hI7.out.found hG7.out own8 hK8 (hat8.imp id (fun h => by rw [h]; simp))
              have t08 := hS8.cell t07 tA
              have tA8 := (hS8.2 bv hz7 tA).2
              have hz8 := cell_lt t08
              obtain ⟨xs2, hxs2⟩ : ∃ xs2, xs2 = xs ++ [⟨some ⟨bm, om, none⟩, yn, yc, yk, yp⟩] := ⟨_, rfl⟩
              have hxm := hide (show xs2.map Yv.wy = xs.map Yv.wy ++ [⟨yk, yp⟩] by rw [hxs2]; simp [Yv.wy])
              have hxl2 := hide (show xs2.length = kx + 1 by rw [hxs2, List.length_append, hxl.out]; rfl)
              have hmem2 := hide (show (⟨some ⟨bm, om, none⟩, yn, yc, yk, yp⟩ : Yv) ∈ xs2 by rw [hxs2]; simp)
              rw [← hxs2] at hI8
              replace hI8 := hide hI8
              replace hxs2 := hide hxs2
              have hkw := hide (kw_start (out := xs.map Yv.wy) (m := ⟨yk, yp⟩) (fun x hx => hY.out.wS x (hpw.out.mem_iff.1 (List.mem_cons_of_mem _ hx))))
              have hok := hide p1.out
              have hsim := hide hYm.out.1
              have hpl := hide (show yp.length = yn from (hG7.out.1).len)
              have hync : yn ≤ yc := (hG7.out.1).cap
              have hycm : yc ≤ 9223372036854775807 := (hG7.out.1).max
              have hyn64 : yn ≤ 64 := by have h1 := hSl.out yp hsim.out; have := hpl.out; omega
              have hyn1 : 1 ≤ yn := by
                obtain ⟨r, hr⟩ := hsim.out.hd
                have h1 := hpl.out
                have h2 : yp = s :: r := hr
                rw [h2] at h1
                simp at h1
                omega
              clear hI7 hG7 own8 hb8 hgr8 hat8 hgl8 hK8 hS8 t07 t17 tA hz7
              go_wp2_with fail
              go_loopw [16] (fun s16 wr => ∃ (i q : Nat) (a1 : Option Addr) (c1 : Nat) (f : Nat → Yv), s16 = .int .i64 i ∧ 1 ≤ i ∧ q ≤ q0 + i ∧ Hid (KI (.func (.func 147) #[] #[]) w g n a es.length cap (.slice a1 q c1) q f (.slice (some ⟨g8, 0, none⟩) (kx + 1) c8) xs2 wr) ∧ Hid (KW es s t (xs.map Yv.wy) ⟨yk, yp⟩ i ((RW q0 f2).map Yv.wy) ((RW q f).map Yv.wy)) ∧ Hid (HeapOK yvLt q f) ∧ Hid (wr.cell? ⟨bv, 0, none⟩ = some (.slice (some ⟨bm, om, none⟩) yn yc) ∧ ¬ AK g (.slice a1 q c1) (.slice (some ⟨g8, 0, none⟩) (kx + 1) c8) bv) ∧ i ≤ yn) (fun s16 _ => yn + 1 - (intOf s16).toNat)
              case atStart => exact ⟨1, q0, _, _, f2, rfl, Nat.le_refl _, by omega, hI8, hkw, hok, hide ⟨t08, tA8⟩, hyn1⟩
              case round =>
                clear hI8 hkw hok t08 tA8 hz8
                obtain ⟨i, q, a1, c1, f, rfl, hi1, hqi, hI, hkw, hok, htc, hiy⟩ := hrel
                obtain ⟨wq, rfl⟩ : ∃ wq : World, wq = wr := ⟨_, rfl⟩
                have t0 := htc.out.1
                have tA := hide htc.out.2
                have tz := cell_lt t0
                have hwi : IntKind.i64.wrap ((i : Int) + 1) = (i : Int) + 1 := by rw [IntKind.wrap_i64]; omega
                by_cases hin : i < yn
                · obtain ⟨b0, u, hbt, hbl2, hb1, hb2, hb3, hut⟩ := sim_take hsim.out hi1 (show i < yp.length by rw [hpl.out]; exact hin)
                  have hbt : yp.take i = b0 ++ [u] := hbt
                  have hGm := hide (hI.out.go _ hmem2.out)
                  have hbRow := hide (show Row encI 1 wq wq.heap.size (some ⟨bm, om, none⟩) (NI (b0 ++ [u])) by rw [← hbt]; exact (hGm.out.1.row).takeI i)
                  have hiI : (i : Int) < (yn : Int) := by omega
                  have hi0 : (0 : Int) ≤ (i : Int) := by omega
                  have hiyc : (i : Int) ≤ (yc : Int) := by omega
                  have hbs : w.heap.size + 1 ≤ wq.heap.size := by have h1 := hI.out.hp.bg; have h2 := hI.out.hp.lt; omega
                  have x0 := hI.out.x0
                  have x1 := hI.out.x1
                  have xz := cell_lt x0
                  simp only at xz tz
                  replace hbt := hide hbt
                  replace hbl2 := hide hbl2
                  replace hb1 := hide hb1
                  replace hb2 := hide hb2
                  replace hb3 := hide hb3
                  replace hut := hide hut
                  go_wp2_with fail
                  go_loopw [18, 81] (fun s18 s81 wr => ∃ (k2 qn : Nat) (an : Option Addr) (cn : Nat), s81 = .int .i64 k2 ∧ k2 ≤ kx + 1 ∧ s18 = .slice an qn cn ∧ Hid ((nxtL ((xs2.map (·.p)).take k2) (yp.take i)).length = qn) ∧ Hid (Own encI 1 3 wr wq.heap.size (.slice an qn cn) (NI (nxtL ((xs2.map (·.p)).take k2) (yp.take i)))) ∧ Hid (Below wq.heap.size wq wr)) (fun _ s81 _ => kx + 1 - (intOf s81).toNat)
                  case atStart => exact ⟨0, 0, none, 0, rfl, by omega, rfl, hide (by simp [nxtL]), hide (by simp [nxtL, NI]; exact Own.nil _ _), hide (Below.refl _ _)⟩
                  case round =>
                    obtain ⟨k2, qn, an, cn, rfl, hk2, rfl, hqn, hown, hbq⟩ := hrel
                    have hIr := hide (hI.out.stays hbq.out)
                    have hzq := hbq.out.size
                    have t0r := cu_below hbq.out t0 tz
                    have tzr := cell_lt t0r
                    simp only at tzr
                    by_cases hlt : k2 < kx + 1
                    · have hk3 : k2 < xs2.length := by rw [hxl2.out]; exact hlt
                      have hGx := hide (hIr.out.go xs2[k2] (List.getElem_mem hk3))
                      obtain ⟨cx0, cx1⟩ := hIr.out.ou.getY k2 hk3
                      have hnt := hide (nxtL_take (ps := xs2.map (·.p)) (b := yp.take i) (k := k2) (by simpa using hk3))
                      have hel := hide (show (xs2.map (·.p))[k2]'(by simpa using hk3) = xs2[k2].p by simp)
                      obtain ⟨x, hx⟩ : ∃ x, x = xs2[k2] := ⟨_, rfl⟩
                      rw [← hx] at cx0 cx1 hGx hel
                      obtain ⟨xa, xn, xc, xk, xp⟩ := x
                      obtain ⟨hPx, bx2, ox, e1, hbx2, hAx⟩ := hGx.out
                      simp only at e1
                      subst e1
                      have hel2 : (xs2.map (·.p))[k2]'(by simpa using hk3) = xp := hel.out
                      replace hnt := hnt.out
                      rw [hel2] at hnt
                      replace hnt := hide hnt
                      clear hel2
                      have hg8 := hIr.out.ou.at_base.2
                      have hxpl : xp.length = xn := hPx.len
                      have hxcap : xn ≤ xc := hPx.cap
                      have hxmax : xc ≤ 9223372036854775807 := hPx.max
                      have htl : (yp.take i).length = i := by rw [hbt.out, List.length_append]; exact hbl2.out
                      rw [htl] at hnt
                      have hqn2 : qn ≤ 8 := by
                        rw [← hqn.out]
                        exact Nat.le_trans (nxtL_len _ _) (by rw [List.length_take]; omega)
                      obtain ⟨wA, hwA⟩ : ∃ wA, wA = wr.alloc (.cells #[.slice (some ⟨bx2, ox, none⟩) xn xc, .int .i64 xk] 36) := ⟨_, rfl⟩
                      have hbA : Below wr.heap.size wr wA := by rw [hwA]; exact up_alloc (Below.refl _ _) (Nat.le_refl _)
                      have hbqA := hide (fun (j : Nat) => (show Below wq.heap.size wq (wA.drewN j) from up_drewN (hbq.out.trans (hbA.mono hzq))))
                      have a0 : wA.cell? ⟨wr.heap.size, 0, none⟩ = some (.slice (some ⟨bx2, ox, none⟩) xn xc) := by rw [hwA]; simp [go_sem]
                      have hzA := cell_lt a0
                      simp only at hzA
                      have hownA := hide (fun (j : Nat) => (hown.out.stays hbA).drewN j)
                      have hii : IntKind.i64.wrap ((k2 : Int) + 1) = (k2 : Int) + 1 := by rw [IntKind.wrap_i64]; omega
                      have ik2 : (0 : Int) ≤ (k2 : Int) ∧ (k2 : Int) < (kx : Int) + 1 := by omega
                      have ik3 : (0 : Int) ≤ (k2 : Int) ∧ (k2 : Int) < ((kx + 1 : Nat) : Int) := by omega
                      by_cases hxi : i < xn
                      · have hxI : (i : Int) < (xn : Int) := by omega
                        have hixc : (i : Int) ≤ (xc : Int) := by omega
                        obtain ⟨tt, htt⟩ : ∃ tt, tt = decide (xp.take i = yp.take i) := ⟨_, rfl⟩
                        have hEq := hide (eqI (some ⟨bx2, ox, none⟩) (some ⟨bm, om, none⟩) xc yc i i (NI (xp.take i)) (NI (yp.take i)) wA wA.heap.size wA.heap.size (by rw [ni_len, List.length_take]; omega) (by rw [ni_len]; exact htl) ((hPx.row.takeI i).below hbA (Nat.le_refl _) |>.mono (by have := hbA.size; omega)) (by
                          rw [hbt.out]
                          have h1 := hbRow.out.below (hbq.out.trans (hbA.mono hzq)) (Nat.le_refl _)
                          exact h1.mono (by have := hbA.size; omega)) (by omega) (by omega) tt (by rw [htt, decide_eq_true_eq]; exact ⟨fun h => by rw [h], fun h => ni_inj h⟩))
                        have hcell := hide (fun (j : Nat) => (show (wA.drewN j).cell? ⟨bx2, ox + i, none⟩ = some (.int .i64 ((xp.getD i 0 : Nat) : Int)) from by
                          obtain ⟨b', o', q1, q2, q3⟩ := hPx.row.int i (by rw [ni_len]; show i < xp.length; omega)
                          simp only [Option.some.injEq, Addr.mk.injEq] at q1
                          obtain ⟨rfl, rfl, _⟩ := q1
                          refine cu_drewN (cu_below hbA ?_ (by exact hbx2))
                          rw [q3, ni_get xp i (by rw [ni_len]; omega) (by omega)]
                          simp [List.getD, List.getElem?_eq_getElem (show i < xp.length by omega)]))
                        have hntC := hide (show nxtL ((xs2.map (·.p)).take (k2 + 1)) (yp.take i) = if tt = true then nxtL ((xs2.map (·.p)).take k2) (yp.take i) ++ [xp.getD i 0] else nxtL ((xs2.map (·.p)).take k2) (yp.take i) from by
                          rw [hnt.out, htt]
                          by_cases h : xp.take i = yp.take i
                          · rw [if_pos ⟨by omega, h⟩, if_pos (by simp [h])]
                          · rw [if_neg (fun h2 => h h2.2), if_neg (by simp [h])])
                        obtain ⟨zi, hzi⟩ : ∃ z : Nat, z = xp.getD i 0 := ⟨_, rfl⟩
                        rw [← hzi] at hntC
                        have hcell2 := hide (fun (j : Nat) => (show (wA.drewN j).cell? ⟨bx2, ox + i, none⟩ = some (.int .i64 (zi : Int)) by rw [hzi]; exact hcell.out j))
                        have hi2 : (0 : Int) ≤ (i : Int) ∧ (i : Int) < (xn : Int) := by omega
                        replace hzi := hide hzi
                        replace htt := hide htt
                        replace htl := hide htl
                        replace hx := hide hx
                        replace hxpl := hide hxpl
                        have hbx3 : bx2 < wA.heap.size := by have := hbA.size; omega
                        clear hPx hAx hGx hel hnt hbA hcell
                        go_wp2_with fail
                        simp only [← hwA]
                        replace hwA := hide hwA
                        refine hEq.out.mono ?_
                        rintro e wB ⟨rfl, j, rfl⟩
                        have hc3 := hcell2.out j
                        have ho3 := hide (hownA.out j)
                        have hb3 := hide (hbqA.out j)
                        have a3 := cu_drewN (n := j) a0
                        have hz3 := cell_lt a3
                        have hz4 := cell_lt hc3
                        generalize wA.drewN j = wB at hc3 ho3 hb3 a3 hz3 hz4 ⊢
                        clear hEq hcell2 hownA hbqA a0 cx0 cx1 t0r
                        cases tt with
                        | true =>
                          have hnt2 := hntC.out
                          rw [if_pos rfl] at hnt2
                          replace hnt2 := hide hnt2
                          have hzB := hb3.out.size
                          go_wp2_with (at_builtin; (refine wpList_push (e := 3) (enc := encI) (xs := (NI (nxtL ((xs2.map (·.p)).take k2) (yp.take i)))) (v := .slice an (qn) cn) (base := wq.heap.size) rfl (.tmp 98) (.tmp 104) 29 rfl _ 8 Try.underlying29 info_int rfl ?d19 lenI oneI (qn) ?d29 ?d39 ?d49 ⟨wB.heap.size, 0, none⟩ 1 (zi : Int) ?d59 ?d69 ?d79 ?d89 ?d99 ?_); (case d19 => omega); (case d29 => exact (by rw [ni_len]; exact hqn.out)); (case d39 => rfl); (case d49 => exact (ho3.out.alloc _)); (case d59 => rfl); (case d69 => exact newI _ _ _ _ rfl); (case d79 => omega); (case d89 => unfold maxLen; omega); (case d99 => first | omega | (simp; done) | (simp; omega)); intro g9 c9 w9 own9 hb9 hgr9 hg9 hgl9; have hB9 := hide (unalloc hb9 hzB); replace own9 := hide own9; clear hgr9 hb9)
                          go_roundw
                          case rel =>
                            refine ⟨k2 + 1, qn + 1, _, _, by go_num, by omega, rfl, hide ?_, hide ?_, hide (hb3.out.trans hB9.out)⟩
                            · rw [hnt2.out, List.length_append, hqn.out]; rfl
                            · rw [hnt2.out, show NI (nxtL ((xs2.map (·.p)).take k2) (yp.take i) ++ [zi]) = NI (nxtL ((xs2.map (·.p)).take k2) (yp.take i)) ++ [(zi : Int)] by simp [NI]]
                              exact own9.out
                          case measure => simp [intOf]; omega
                        | false =>
                          have hnt2 := hntC.out
                          rw [if_neg (by simp)] at hnt2
                          replace hnt2 := hide hnt2
                          go_wp2
                          go_roundw
                          case rel => exact ⟨k2 + 1, qn, an, cn, by go_num, by omega, rfl, hide (by rw [hnt2.out]; exact hqn.out), hide (by rw [hnt2.out]; exact ho3.out), hb3⟩
                          case measure => simp [intOf]; omega
                      · have hxI : ((i : Int) < (xn : Int)) = False := by simp; omega
                        have hnt2 := hide (show nxtL ((xs2.map (·.p)).take (k2 + 1)) (yp.take i) = nxtL ((xs2.map (·.p)).take k2) (yp.take i) by rw [hnt.out, if_neg (by omega)])
                        replace hx := hide hx
                        replace hxpl := hide hxpl
                        replace htl := hide htl
                        have ho3 := hide (hownA.out 0)
                        have hb3 := hide (hbqA.out 0)
                        clear hPx hAx hGx hel hnt hbA hxi
                        go_wp2
                        simp only [← hwA]
                        go_roundw
                        case rel => exact ⟨k2 + 1, qn, an, cn, by go_num, by omega, rfl, hide (by rw [hnt2.out]; exact hqn.out), hide (by rw [hnt2.out]; exact ho3.out), hb3⟩
                        case measure => simp [intOf]; omega
                    · obtain rfl : k2 = kx + 1 := by omega
                      obtain ⟨w9, rfl⟩ : ∃ w9 : World, w9 = wr := ⟨_, rfl⟩
                      obtain ⟨no, hno⟩ : ∃ no, no = nxtL (xs2.map (·.p)) (yp.take i) := ⟨_, rfl⟩
                      have htk : (xs2.map (·.p)).take (kx + 1) = xs2.map (·.p) := List.take_of_length_le (by rw [List.length_map, hxl2.out]; exact Nat.le_refl _)
                      have hown2 := hown.out
                      have hqn2 := hqn.out
                      rw [htk, ← hno] at hown2 hqn2
                      have hNx := hide (show Nxt (xs.map Yv.wy ++ [⟨yk, yp⟩]) (yp.take i) = fun v => v ∈ no by rw [← hxm.out, nxt_is, hno, List.map_map]; rfl)
                      have hrn : Row encI 1 w9 w9.heap.size an (NI no) := by
                        obtain ⟨a', c', hv, hr, _⟩ := hown2.row lenI
                        injection hv with q1 q2 q3
                        subst q1
                        exact hr
                      have hO := hide (hOn.out w9 (some ⟨bm, om, none⟩) i yc b0 u an qn cn no hIr.out.bel ((hbRow.out.below hbq.out (Nat.le_refl _)).mono hzq) hrn hbl2.out hqn2 (by
                        rw [← hqn2, hno]
                        have := nxtL_len (xs2.map (·.p)) (yp.take i)
                        rw [List.length_map, hxl2.out] at this
                        omega) (by omega) hycm hb1.out hb2.out hb3.out)
                      have hWi := hide (hW.out b0 no u hb1.out hb2.out hb3.out)
                      have x0r := hIr.out.x0
                      have x1r := hIr.out.x1
                      have xzr := cell_lt x0r
                      simp only at xzr
                      replace hno := hide hno
                      clear hown hqn hown2 hqn2 hrn htk hI t0 x0 x1
                      go_wp2_with fail
                      refine hO.out.mono ?_
                      rintro e w10 ⟨hb10, hans⟩
                      have hI10 := hide (hIr.out.stays hb10)
                      have t10 := cu_below hb10 t0r tzr
                      have tz10 := cell_lt t10
                      simp only at tz10
                      have hz10 := hb10.size
                      rcases hans with ⟨hF, rfl⟩ | ⟨hF, gg, y2, hgr, hyp, hyk, rfl, hPB, hnew⟩
                      · have hk2 := hide (kw_step (c := none) (W' := (RW q f).map Yv.wy) hkw.out (show OnwIs es s t (yp.take i) (Nxt (xs.map Yv.wy ++ [⟨yk, yp⟩]) (yp.take i)) none by rw [hNx.out, hbt.out]; exact hWi.out.1 hF) (by simp))
                        have hI11 := hide (fun (o : Obj) => hI10.out.stays (up_alloc (Below.refl _ _) (Nat.le_refl _) : Below w10.heap.size w10 (w10.alloc o)))
                        have t11 := hide (fun (o : Obj) => (show (w10.alloc o).cell? ⟨bv, 0, none⟩ = some (.slice (some ⟨bm, om, none⟩) yn yc) ∧ ¬ AK g (.slice a1 q c1) (.slice (some ⟨g8, 0, none⟩) (kx + 1) c8) bv from ⟨cu_alloc t10, tA.out⟩))
                        replace hF := hide hF
                        clear hO hb10 hIr t0r
                        go_wp2
                        go_roundw
                        case rel => exact ⟨i + 1, q, a1, c1, f, by go_num, by omega, by omega, hide (hI11.out _), hk2, hok, hide (t11.out _), by omega⟩
                        case measure => simp [intOf]; omega
                      · have hwy := hide (show y2.wy = ⟨pcost es (b0 ++ u :: gg), b0 ++ u :: gg⟩ by unfold Yv.wy; rw [hyk, hyp])
                        have hOI := hide (show OnwIs es s t (yp.take i) (Nxt (xs.map Yv.wy ++ [⟨yk, yp⟩]) (yp.take i)) (some y2.wy) by rw [hNx.out, hbt.out, hwy.out]; exact (hWi.out.2 gg hF hgr).2 hut.out)
                        have hold := hIr.out.old
                        have hG10 : GY (AK g (.slice a1 q c1) (.slice (some ⟨g8, 0, none⟩) (kx + 1) c8)) w10 y2 := by
                          obtain ⟨b, o2, e1, e2, _⟩ := hPB.row 0 (by rw [ni_len, hyp, List.length_append, List.length_cons]; omega)
                          have hn := hnew _ e1
                          refine ⟨hPB, b, o2, e1, e2, fun e => ?_⟩
                          have := (hold b e).2
                          simp only at hn
                          omega
                        obtain ⟨w11, hw11⟩ : ∃ w11, w11 = w10.alloc (.cells #[.slice y2.a y2.n y2.c, .int .i64 y2.k] 36) := ⟨_, rfl⟩
                        have hb11 : Below w10.heap.size w10 w11 := by rw [hw11]; exact up_alloc (Below.refl _ _) (Nat.le_refl _)
                        have hI11 := hide (hI10.out.stays hb11)
                        have hG11 := hG10.stays hb11
                        have t11 := cu_below hb11 t10 tz10
                        have c110 : w11.cell? ⟨w10.heap.size, 0, none⟩ = some (.slice y2.a y2.n y2.c) := by rw [hw11]; simp [go_sem]
                        have c111 : w11.cell? ⟨w10.heap.size, 1, none⟩ = some (.int .i64 y2.k) := by rw [hw11]; simp [go_sem]
                        have hz11 := cell_lt c110
                        simp only at hz11
                        have hGP : ∀ j, j < q + 1 → PB w11 (upz f q y2 j) ∧ Apt (fun k => k = g ∨ (Value.slice a1 q c1).ownBlock = some k) (upz f q y2 j) := fun j hj => by
                          by_cases hjq : j = q
                          · subst hjq
                            rw [upz_same]
                            exact ⟨hG11.1, hG11.apt (fun b hb => hb.elim .inl (fun h => .inr (.inl h)))⟩
                          · rw [upz_other _ _ hjq]
                            have := hI11.out.gh j (by omega)
                            exact ⟨this.1, this.apt (fun b hb => hb.elim .inl (fun h => .inr (.inl h)))⟩
                        have hPush := hide (pushY_any (w.heap.size + 1) g q a1 c1 f y2 w11 hI11.out.hp (by omega) hGP)
                        obtain ⟨q1, q2⟩ := push_ok yvLt_ord hok.out y2
                        replace q1 := hide q1
                        replace q2 := hide q2
                        generalize siftUp yvLt (upz f q y2) q = f3 at hPush q1 q2
                        replace hG11 := hide hG11
                        replace hF := hide hF
                        replace hgr := hide hgr
                        replace hyp := hide hyp
                        replace hyk := hide hyk
                        clear hO hb10 hIr t0r hG10 hGP hPB hnew hold hb11
                        go_wp2_with fail
                        simp only [← hw11]
                        replace hw11 := hide hw11
                        refine hPush.out.mono ?_
                        rintro e w12 ⟨rfl, hP⟩
                        obtain ⟨gs3, c3, hI12, hS12⟩ := hI11.out.push hG11.out hP q2.out
                        have t12 := hide (show w12.cell? ⟨bv, 0, none⟩ = some (.slice (some ⟨bm, om, none⟩) yn yc) ∧ ¬ AK g (.slice (some ⟨gs3, 0, none⟩) (q + 1) c3) (.slice (some ⟨g8, 0, none⟩) (kx + 1) c8) bv from ⟨hS12.cell t11 tA.out, (hS12.2 bv (cell_lt t11) tA.out).2⟩)
                        have hk2 := hide (kw_step (c := some y2.wy) (W' := (RW (q + 1) f3).map Yv.wy) hkw.out hOI.out (by have := q2.out.map Yv.wy; simpa using this))
                        replace hI12 := hide hI12
                        replace hP := hide hP
                        replace hS12 := hide hS12
                        clear hPush t11 c110 c111
                        go_wp2
                        go_roundw
                        case rel => exact ⟨i + 1, q + 1, _, _, f3, by go_num, by omega, by omega, hI12, hk2, q1, t12, by omega⟩
                        case measure => simp [intOf]; omega
                · obtain rfl : i = yn := by omega
                  have hend := kw_end hY.out (show KW es s t (xs.map Yv.wy) ⟨yk, yp⟩ yp.length ((RW q0 f2).map Yv.wy) ((RW q f).map Yv.wy) by rw [hpl.out]; exact hkw.out) hpw.out hmin.out hni.out hD.out
                  rw [← hxm.out] at hend
                  have he1 := hide hend.1
                  have he2 := hide hend.2
                  clear hend
                  go_wp2
                  go_roundg (gk - 1)
                  case measure => omega
                  case rel => exact ⟨q, _, _, f, kx + 1, _, _, xs2, rfl, by omega, by omega, by omega, hxl2, hI, he1, he2, hok⟩
end Go.Proofs.Ytcehdpeeaogpiaa
