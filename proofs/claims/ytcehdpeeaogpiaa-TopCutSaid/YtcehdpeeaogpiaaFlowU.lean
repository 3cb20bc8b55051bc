/-
  What flow.push does. Conditions: a right net of costs above 0, a flow, a way back through what is free.
-/
import Derived.Test.YtcehdpeeaogpiaaFlowX
import Derived.BigQuiet
import Derived.BigRegion
import Derived.Deep.QuietTactic
import Derived.Deep.LoopGhost
namespace Go.Proofs.Ytcehdpeeaogpiaa
open Go.RowKit
set_option linter.unusedSimpArgs false
set_option linter.unusedVariables false
/-- the step to v: its edge -/
theorem par_edge {fl : Nat → Int} {es : List Ed} {n : Nat} {by_ : Nat → Int} {p v : Nat} (hes : Right n es) (hb : ∀ i e, (nes es)[i]? = some e → 0 ≤ fl i ∧ fl i ≤ e.c) (h : Par fl (nes es) by_ p v) :
    ∃ (i : Nat) (hi : i < es.length), i = eix (by_ v) ∧ v < n ∧ p < n ∧ es[i].c ≤ 10000 ∧ 0 ≤ fl i ∧ fl i ≤ es[i].c ∧
      ((by_ v = (i : Int) ∧ es[i].u = (p : Int) ∧ es[i].v = (v : Int) ∧ resA fl (nes es) (by_ v) = es[i].c - fl i) ∨ (by_ v < 0 ∧ by_ v = -1 - (i : Int) ∧ es[i].v = (p : Int) ∧ es[i].u = (v : Int) ∧ resA fl (nes es) (by_ v) = fl i)) := by
  obtain ⟨e, h1, h2, h3⟩ := par_eix h
  have hi : eix (by_ v) < es.length := by have := (List.getElem?_eq_some_iff.1 h1).1; rwa [nes_len] at this
  obtain ⟨u, vv, e1, e2, e3, e4, e5, e6, -⟩ := right_edge hes _ hi
  have hg := nes_get es _ hi
  rw [h1] at hg
  have he : e = ⟨es[eix (by_ v)].u.toNat, es[eix (by_ v)].v.toNat, es[eix (by_ v)].c⟩ := Option.some.inj hg
  have hb1 := hb _ _ h1
  have hu : e.u = u := by rw [he, e1]; simp
  have hv : e.v = vv := by rw [he, e2]; simp
  have hc : e.c = es[eix (by_ v)].c := by rw [he]
  refine ⟨eix (by_ v), hi, rfl, ?_, ?_, e6, hb1.1, by rw [← hc]; exact hb1.2, ?_⟩
  · rcases h3 with ⟨_, _, a1, a2⟩ | ⟨_, _, a1, a2⟩ <;> omega
  · rcases h3 with ⟨_, _, a1, a2⟩ | ⟨_, _, a1, a2⟩ <;> omega
  · rcases h3 with ⟨b1, b2, a1, a2⟩ | ⟨b1, b2, a1, a2⟩
    · refine .inl ⟨b2, by omega, by omega, ?_⟩
      unfold resA
      rw [if_pos b1, h1]
      simp only [hc]
    · refine .inr ⟨b1, b2, by omega, by omega, ?_⟩
      unfold resA
      rw [if_neg (by omega)]
theorem most_cons (fl : Nat → Int) (E : List NE) (by_ : Nat → Int) (v : Nat) (r : List Nat) (m : Int) : mostA fl E by_ (v :: r) m = mostA fl E by_ r (min m (resA fl E (by_ v))) := rfl
set_option maxRecDepth 100000 in
set_option maxHeartbeats 8000000 in
theorem push_flow (n s t gf gy : Nat) (a : Option Addr) (cap cf cy : Nat) (es : List Ed) (fl by_ b : Nat → Int) (sum : Int) (l : List Nat) (w : World) (base B : Nat) (hB : B ≤ w.heap.size) (hE : Row encE 3 w B a es) (hBb : B ≤ base)
    (hF : Own encI 1 3 w base (.slice (some ⟨gf, 0, none⟩) es.length cf) (LI es.length fl)) (hY : Own encI 1 3 w base (.slice (some ⟨gy, 0, none⟩) n cy) (LI n b)) (hne : gf ≠ gy) (hn : n ≤ 64) (hl : es.length ≤ 600) (hes : Right n es) (hs : s < n) (ht : t < n) (hst : s ≠ t)
    (hf : FlowOk (nes es) n s t fl sum) (hpc : PC fl (nes es) by_ s t l) (hdf : Diff by_ l) (hll : l.length ≤ n) (hby : ∀ v, v ≠ s → b v = by_ v) :
    Calls Try.prog 166 #[.agg #[.int .i64 (n : Int), .slice a es.length cap], .slice (some ⟨gf, 0, none⟩) es.length cf, .slice (some ⟨gy, 0, none⟩) n cy, .int .i64 (s : Int), .int .i64 (t : Int)] w fun e w' => ∃ (d : Int) (f2 : Nat → Int), e = .returned (.int .i64 d) ∧ 0 < d ∧ d ≤ 10000 ∧ FlowOk (nes es) n s t f2 (sum + d) ∧ Own encI 1 3 w' base (.slice (some ⟨gf, 0, none⟩) es.length cf) (LI es.length f2) ∧ Keep (fun k => k = gf) w w' := by
  obtain ⟨m, hm⟩ : ∃ m, m = es.length := ⟨_, rfl⟩
  rw [← hm] at hl hF ⊢
  have hgf := hF.at_base
  have hgy := hY.at_base
  have hpos : 0 < mostA fl (nes es) by_ l 1099511627776 := most_pos (by omega) (pc_res hpc)
  have hmle := most_le fl (nes es) by_ l 1099511627776
  replace hE := hide hE
  replace hes := hide hes
  replace hF := hide hF
  replace hY := hide hY
  replace hf := hide hf
  replace hdf := hide hdf
  replace hby := hide hby
  replace hpc := hide hpc
  replace hm := hide hm
  replace hmle := hide hmle
  obtain ⟨d, hd⟩ : ∃ d, d = mostA fl (nes es) by_ l 1099511627776 := ⟨_, rfl⟩
  rw [← hd] at hpos
  replace hd := hide hd
  obtain ⟨w1, h1⟩ : ∃ w1, w1 = w.alloc (.cells #[.int .i64 (n : Int), .slice a m cap] 24) := ⟨_, rfl⟩
  have hb1 : Below w.heap.size w w1 := by rw [h1]; exact up_alloc (Below.refl _ _) (Nat.le_refl _)
  have c1 : w1.cell? ⟨w.heap.size, 1, none⟩ = some (.slice a m cap) := by rw [h1]; simp [go_sem]
  have hz1 : w.heap.size < w1.heap.size := cell_lt c1
  have hE1 := hide (hE.out.below hb1 hB)
  have hF1 := hide (hF.out.stays hb1)
  have hY1 := hide (hY.out.stays hb1)
  have hat1 := hide (show Below w1.heap.size w1 (w.alloc (.cells #[.int .i64 (n : Int), .slice a m cap] 24)) by rw [h1]; exact Below.refl _ _)
  replace h1 := hide h1
  replace hb1 := hide hb1
  clear hE hF hY
  go_enter Try.func166, Try.ntmps166
  go_wp2
  go_loopg [11, 12] (n + 1) (fun gk s11 s12 wr => ∃ (v : Nat) (r : List Nat) (mo : Int), s11 = .int .i64 mo ∧ s12 = .int .i64 (v : Int) ∧ Hid (PC fl (nes es) by_ s v r) ∧ Hid (mostA fl (nes es) by_ r mo = d) ∧ Hid (Below w1.heap.size w1 wr) ∧ gk + l.length = n + 1 + r.length)
  case atStart => exact ⟨t, l, _, rfl, rfl, hpc, hide hd.out.symm, hat1, by omega⟩
  case round =>
    clear hat1
    obtain ⟨v, r, mo, rfl, rfl, hp, hmo, hb, hrg⟩ := hrel
    by_cases hvs : v = s
    · obtain rfl : s = v := hvs.symm
      have q1 : ((s : Int) != (s : Int)) = false := by simp
      have hr := pc_at hp.out
      subst hr
      obtain rfl : d = mo := hmo.out.symm
      have hF2 := hide (hF1.out.stays hb.out)
      have hY2 := hide (hY1.out.stays hb.out)
      have hE2 := hide (hE1.out.below hb.out (by omega))
      have c2 := cu_below hb.out c1 hz1
      have hz2 : w1.heap.size ≤ wr.heap.size := hb.out.size
      have hK2 := hide (show Keep (fun k => k = gf) w wr from Keep.new (hb1.out.trans (hb.out.mono (by omega))))
      obtain ⟨wo, hwo⟩ : ∃ wo : World, wo = wr := ⟨_, rfl⟩
      simp only [← hwo] at hF2 hY2 hE2 c2 hz2 hK2 ⊢
      clear hwo
      have hmid := hide (pmid_start (sum := sum) hf.out hpc.out hdf.out (fun x hx => by have := hmle.out.2 x hx; rw [← hd.out] at this; exact this))
      clear hrg hmo hp hF1 hY1 hE1 hb c1
      go_wp2
      go_loopg [14] (n + 1) (fun gk s14 wr => ∃ (v : Nat) (r : List Nat) (f2 : Nat → Int), s14 = .int .i64 (v : Int) ∧ Hid (PMid (nes es) n s t fl sum by_ d v r f2) ∧ Hid (Own encI 1 3 wr base (.slice (some ⟨gf, 0, none⟩) m cf) (LI m f2)) ∧ Hid (Keep (fun k => k = gf) wo wr) ∧ gk + l.length = n + 1 + r.length)
      case atStart => exact ⟨t, l, fl, rfl, hmid, hF2, hide (Keep.refl _ _), by omega⟩
      case round =>
        clear hmid hF2
        obtain ⟨v, r, f2, rfl, hmid, hF2, hK3, hrg⟩ := hrel
        by_cases hvs : v = s
        · obtain rfl : s = v := hvs.symm
          have q1 : ((s : Int) != (s : Int)) = false := by simp
          have hr := pc_at hmid.out.pc
          subst hr
          have hfin := hide (pmid_end hf.out hst hmid.out)
          have hmd : d ≤ 10000 := by
            obtain ⟨p, r, hlr, hpar, _⟩ := pc_ne hpc.out (fun e => hst e.symm)
            obtain ⟨i, hi, _, _, _, c1, c2, c3, hc⟩ := par_edge hes.out hf.out.bd hpar
            have h4 := hmle.out.2 t (by rw [hlr]; simp)
            rw [← hd.out] at h4
            rcases hc with ⟨_, _, _, h5⟩ | ⟨_, _, _, _, h5⟩ <;> omega
          clear hmid
          go_wp2
          go_ret
          exact ⟨d, rfl, hpos, hmd, f2, hfin.out, hF2.out, hK2.out.trans hK3.out⟩
        · have q1 : ((v : Int) != (s : Int)) = true := by simp; omega
          have hr0 := pc_ne hmid.out.pc hvs
          obtain ⟨p0, r', hre, _, _⟩ := hr0
          subst hre
          obtain ⟨-, p, hpar, -, hmid2⟩ := pmid_step hmid.out (Int.le_of_lt hpos)
          obtain ⟨i, hi, hix, hvn, hpn, hc1, hf0, hf1, hcase⟩ := par_edge hes.out hf.out.bd hpar
          have him : i < m := by rw [hm.out]; exact hi
          have hle := hmid.out.le v (by simp)
          have hsame := hmid.out.same v (by simp)
          rw [← hix] at hsame
          have dY := hK3.out.own hY2.out (fun k hk => by simp [Value.ownBlock] at hk; omega)
          have dY := dY.atI v hvn
          rw [hby.out v hvs] at dY
          have zY := cell_lt dY
          have dF := hF2.out.atI i him
          have fF := hF2.out.free i
          have zF := cell_lt dF
          simp only at zY zF
          rw [hsame] at dF
          have c3 := hK3.out.cu c2 (by simp; omega)
          obtain ⟨b, o, rfl, hbB, m1, m2, m3⟩ := (hK3.out.row hE2.out (by omega) (fun k hk hkg => by omega)).ed i hi
          have zc3 := cell_lt c3
          have zb := cell_lt m1
          simp only at zc3 zb
          have hpush : pushE by_ d f2 v = upz f2 i (if 0 ≤ by_ v then f2 i + d else f2 i - d) := by
            unfold pushE
            rw [← hix]
            split <;> rfl
          have iv : (0 : Int) ≤ (v : Int) ∧ (v : Int) < (n : Int) := by omega
          have ii : (0 : Int) ≤ (i : Int) ∧ (i : Int) < (m : Int) := by omega
          obtain ⟨ec, hec⟩ : ∃ ec, ec = es[i].c := ⟨_, rfl⟩
          rw [← hec] at m3 hc1 hf1 hcase
          obtain ⟨x, hx⟩ : ∃ x, x = fl i := ⟨_, rfl⟩
          rw [← hx] at dF hf0 hf1 hcase hsame
          replace hec := hide hec
          replace hx := hide hx
          replace hix := hide hix
          replace hpar := hide hpar
          have hKn := hide (fun (y : Int) => hK3.out.setCell (p := ⟨gf, i, none⟩) (.inl rfl) (.int .i64 y))
          have hFn := hide (fun (y : Int) => hF2.out.setI i him y)
          have hrl : r'.length + 1 = (v :: r').length := rfl
          rcases hcase with ⟨h5, h6, h7, h8⟩ | ⟨h4, h5, h6, h7, h8⟩
          · have hge : (0 : Int) ≤ by_ v := by omega
            rw [if_pos hge, hsame] at hpush
            rw [hpush] at hmid2
            rw [h6] at m1
            rw [h5] at dY
            have hwr : IntKind.i64.wrap (x + d) = x + d := IntWalk.i64_in _ (by omega)
            have hge2 : (0 : Int) ≤ (i : Int) := by omega
            replace hmid2 := hide hmid2
            replace hpush := hide hpush
            replace h5 := hide h5
            replace h6 := hide h6
            replace h7 := hide h7
            replace hsame := hide hsame
            replace h8 := hide h8
            clear hge hmid hF2 m2
            go_wp2
            go_roundg (gk - 1)
            case measure => simp only [List.length_cons] at hrg; omega
            case rel => exact ⟨p, r', _, rfl, hmid2, hide (hFn.out (x + d)), hide (hKn.out (x + d)), by simp only [List.length_cons] at hrg; omega⟩
          · have hnge : ¬ (0 : Int) ≤ by_ v := by omega
            rw [if_neg hnge, hsame] at hpush
            rw [hpush] at hmid2
            rw [h6] at m2
            obtain ⟨z, hz⟩ : ∃ z, z = by_ v := ⟨_, rfl⟩
            rw [← hz] at dY h4 h5 hnge
            have hwr : IntKind.i64.wrap (x - d) = x - d := IntWalk.i64_in _ (by omega)
            have hwz : IntKind.i64.wrap (-1 - z) = (i : Int) := by rw [show (-1 - z) = (i : Int) by omega]; exact IntWalk.i64_in _ (by omega)
            replace hmid2 := hide hmid2
            replace hpush := hide hpush
            replace h5 := hide h5
            replace h6 := hide h6
            replace h7 := hide h7
            replace hsame := hide hsame
            replace h8 := hide h8
            replace hz := hide hz
            clear hmid hF2 m1
            go_wp2
            go_roundg (gk - 1)
            case measure => simp only [List.length_cons] at hrg; omega
            case rel => exact ⟨p, r', _, rfl, hmid2, hide (hFn.out (x - d)), hide (hKn.out (x - d)), by simp only [List.length_cons] at hrg; omega⟩
    · have q1 : ((v : Int) != (s : Int)) = true := by simp; omega
      obtain ⟨p, r', hre, hpar, hp'⟩ := pc_ne hp.out hvs
      subst hre
      obtain ⟨i, hi, hix, hvn, hpn, hc1, hf0, hf1, hcase⟩ := par_edge hes.out hf.out.bd hpar
      have him : i < m := by rw [hm.out]; exact hi
      have hmo2 := hmo.out
      rw [most_cons] at hmo2
      have dY := (hY1.out.stays hb.out).atI v hvn
      rw [hby.out v hvs] at dY
      have zY := cell_lt dY
      have dF := (hF1.out.stays hb.out).atI i him
      have zF := cell_lt dF
      simp only at zY zF
      have c3 := cu_below hb.out c1 hz1
      obtain ⟨b, o, rfl, hbB, m1, m2, m3⟩ := (hE1.out.below hb.out (by omega)).ed i hi
      have zc3 := cell_lt c3
      have zb := cell_lt m1
      simp only at zc3 zb
      have iv : (0 : Int) ≤ (v : Int) ∧ (v : Int) < (n : Int) := by omega
      have ii : (0 : Int) ≤ (i : Int) ∧ (i : Int) < (m : Int) := by omega
      obtain ⟨ec, hec⟩ : ∃ ec, ec = es[i].c := ⟨_, rfl⟩
      rw [← hec] at m3 hc1 hf1 hcase
      obtain ⟨x, hx⟩ : ∃ x, x = fl i := ⟨_, rfl⟩
      rw [← hx] at dF hf0 hf1 hcase
      obtain ⟨rs, hrs⟩ : ∃ rs, rs = resA fl (nes es) (by_ v) := ⟨_, rfl⟩
      rw [← hrs] at hmo2 hcase
      replace hec := hide hec
      replace hx := hide hx
      replace hix := hide hix
      replace hpar := hide hpar
      replace hrs := hide hrs
      replace hp' := hide hp'
      have hbn := hide (fun k => hb.out.trans (((up_drewN (n := k) (Below.refl wr.heap.size wr)) : Below wr.heap.size wr (wr.drewN k)).mono hb.out.size))
      clear hmo hp
      rcases hcase with ⟨h5, h6, h7, h8⟩ | ⟨h4, h5, h6, h7, h8⟩
      · rw [h6] at m1
        rw [h5] at dY
        have hwr : IntKind.i64.wrap (ec - x) = ec - x := IntWalk.i64_in _ (by omega)
        have hge2 : (0 : Int) ≤ (i : Int) := by omega
        rw [h8] at hmo2
        replace h5 := hide h5
        replace h6 := hide h6
        replace h7 := hide h7
        replace h8 := hide h8
        clear m2
        rcases Int.lt_or_le (ec - x) mo with hmin | hmin
        · rw [show min mo (ec - x) = ec - x by omega] at hmo2
          replace hmo2 := hide hmo2
          go_wp2
          go_quiet (fail)
          go_wp2
          go_roundg (gk - 1)
          case measure => simp only [List.length_cons] at hrg; omega
          case rel => exact ⟨p, r', _, rfl, rfl, hp', hmo2, hide (hbn.out nq), by simp only [List.length_cons] at hrg; omega⟩
        · rw [show min mo (ec - x) = mo by omega] at hmo2
          replace hmo2 := hide hmo2
          go_wp2
          go_quiet (fail)
          go_wp2
          go_roundg (gk - 1)
          case measure => simp only [List.length_cons] at hrg; omega
          case rel => exact ⟨p, r', _, rfl, rfl, hp', hmo2, hide (hbn.out nq), by simp only [List.length_cons] at hrg; omega⟩
      · rw [h6] at m2
        obtain ⟨z, hz⟩ : ∃ z, z = by_ v := ⟨_, rfl⟩
        rw [← hz] at dY h4 h5
        have hnge : ¬ (0 : Int) ≤ z := by omega
        have hwz : IntKind.i64.wrap (-1 - z) = (i : Int) := by rw [show (-1 - z) = (i : Int) by omega]; exact IntWalk.i64_in _ (by omega)
        rw [h8] at hmo2
        replace h5 := hide h5
        replace h6 := hide h6
        replace h7 := hide h7
        replace h8 := hide h8
        replace hz := hide hz
        clear m1
        rcases Int.lt_or_le x mo with hmin | hmin
        · rw [show min mo x = x by omega] at hmo2
          replace hmo2 := hide hmo2
          go_wp2
          go_roundg (gk - 1)
          case measure => simp only [List.length_cons] at hrg; omega
          case rel => exact ⟨p, r', _, rfl, rfl, hp', hmo2, hb, by simp only [List.length_cons] at hrg; omega⟩
        · rw [show min mo x = mo by omega] at hmo2
          replace hmo2 := hide hmo2
          go_wp2
          go_roundg (gk - 1)
          case measure => simp only [List.length_cons] at hrg; omega
          case rel => exact ⟨p, r', _, rfl, rfl, hp', hmo2, hb, by simp only [List.length_cons] at hrg; omega⟩
end Go.Proofs.Ytcehdpeeaogpiaa
