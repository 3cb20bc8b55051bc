/-
  What focal.Run makes at its start, what it answers. No condition.
-/
import Derived.Test.YtcehdpeeaogpiaaFocK
import Derived.Test.YtcehdpeeaogpiaaFocW
import Derived.Test.YtcehdpeeaogpiaaStarO
namespace Go.Proofs.Ytcehdpeeaogpiaa
open Go.RowKit
set_option linter.unusedSimpArgs false
set_option linter.unusedVariables false
theorem lb_ordB (n : Nat) : ordB n [] = LB n (fun _ => false) := by
  unfold ordB LB
  refine List.ext_getElem (by simp) fun i h1 h2 => by simp
theorem FX.rebase {base n sb gc gp gw : Nat} {hv tv : Value} {ra rb : Int} {s : FR} {wS wr : World} (h : FX base n sb gc gp gw hv tv ra rb s wS wr) : FX base n sb gc gp gw hv tv ra rb s wr wr :=
  ⟨h.c0, h.c1, h.c2, h.c3, h.c4, h.c5, h.c6, h.cost, h.pred, h.wait, Keep.refl _ _, by have := h.lt; have := h.keep.size; omega, h.ne⟩
/-- what a search by taste answers -/
def FocAns (es : List Ed) (h taste : Nat → Int) (r : P2) (n tg st : Nat) (s0 : FR) (w : World) (e : Ending) (w' : World) : Prop :=
  ∃ o, FRun (nes es) h taste r n tg st s0 o ∧ Below w.heap.size w w' ∧ match o with
    | .none => e = .returned (.tuple #[FoundNone, .int .i64 5])
    | .steps => e = .returned (.tuple #[FoundNone, .int .i64 8])
    | .found s => ∃ l a k b c, Chain s.pred tg l ∧ e = .returned (.tuple #[.agg #[.slice a l.length k, .int .i64 (wcost (n : Int) es (LP l.reverse)).1, .slice b s.ord.length c], .int .i64 0]) ∧ Own encI 1 3 w' w.heap.size (.slice a l.length k) (LP l.reverse) ∧ Own encI 1 3 w' w.heap.size (.slice b s.ord.length c) (LP s.ord)
/-- what each operation of its statement of the object leaves -/
def FFs (w0 : World) (n : Nat) (hv tv : Value) (ra rb : Int) (bg : Nat) : Nat → Value → Nat → Nat → World → Prop
  | 0, v, _, _, _ => v = hv
  | 1, v, _, _, _ => v = tv
  | 2, v, _, _, _ => v = .pointer (some ⟨bg, 0, none⟩)
  | 3, v, _, _, _ => v = .int .i64 (n : Int)
  | 4, v, lo, hi, w => v = .slice (some ⟨lo, 0, none⟩) n n ∧ lo < hi ∧ Own encI 1 3 w w0.heap.size (.slice (some ⟨lo, 0, none⟩) n n) (LI n (fun _ => 0))
  | 5, v, _, _, _ => v = .pointer (some ⟨bg, 0, none⟩)
  | 6, v, _, _, _ => v = .int .i64 (n : Int)
  | 7, v, lo, hi, w => v = .slice (some ⟨lo, 0, none⟩) n n ∧ lo < hi ∧ Own encI 1 3 w w0.heap.size (.slice (some ⟨lo, 0, none⟩) n n) (LI n (fun _ => 0))
  | 8, v, _, _, _ => v = .pointer (some ⟨bg, 0, none⟩)
  | 9, v, _, _, _ => v = .int .i64 (n : Int)
  | 10, v, lo, hi, w => v = .slice (some ⟨lo, 0, none⟩) n n ∧ lo < hi ∧ Own encB 1 4 w w0.heap.size (.slice (some ⟨lo, 0, none⟩) n n) (LB n (fun _ => false))
  | 11, v, _, _, _ => v = .agg #[.int .i64 ra, .int .i64 rb]
  | _, _, _, _, _ => True
theorem ffs_stays {w0 : World} {n : Nat} {hv tv : Value} {ra rb : Int} {bg : Nat} : ∀ (i : Nat) (v : Value) (lo hi : Nat) (w w' : World), FFs w0 n hv tv ra rb bg i v lo hi w → Below w.heap.size w w' → FFs w0 n hv tv ra rb bg i v lo hi w'
  | 0, _, _, _, _, _, h, _ => h
  | 1, _, _, _, _, _, h, _ => h
  | 2, _, _, _, _, _, h, _ => h
  | 3, _, _, _, _, _, h, _ => h
  | 4, _, _, _, _, _, ⟨h1, h2, h3⟩, hb => ⟨h1, h2, h3.stays hb⟩
  | 5, _, _, _, _, _, h, _ => h
  | 6, _, _, _, _, _, h, _ => h
  | 7, _, _, _, _, _, ⟨h1, h2, h3⟩, hb => ⟨h1, h2, h3.stays hb⟩
  | 8, _, _, _, _, _, h, _ => h
  | 9, _, _, _, _, _, h, _ => h
  | 10, _, _, _, _, _, ⟨h1, h2, h3⟩, hb => ⟨h1, h2, h3.stays hb⟩
  | 11, _, _, _, _, _, h, _ => h
  | _ + 12, _, _, _, _, _, _, _ => trivial
def MidF (w0 : World) (n : Nat) (hv tv : Value) (ra rb : Int) (s18 : Value) (wx : World) : Prop :=
  ∃ sb gc gp gw, s18 = .pointer (some ⟨sb, 0, none⟩) ∧ FX w0.heap.size n sb gc gp gw hv tv ra rb ⟨fun _ => 0, fun _ => 0, fun _ => false, []⟩ wx wx ∧ Below w0.heap.size w0 wx ∧ w0.heap.size ≤ sb
/-- what each operation of its answer leaves -/
def FFb (ng : Value) (sb gp n tg : Nat) (cst : Int) (ol : Value) (L : Nat) (pth : List Int) (b0 : Nat) : Nat → Value → Nat → Nat → World → Prop
  | 0, v, _, _, _ => v = ng
  | 1, v, _, _, _ => v = .pointer (some ⟨sb, 0, none⟩)
  | 2, v, _, _, _ => v = .pointer (some ⟨sb, 0, none⟩)
  | 3, v, _, _, _ => v = .pointer (some ⟨sb, 3, none⟩)
  | 4, v, _, _, _ => v = .slice (some ⟨gp, 0, none⟩) n n
  | 5, v, _, _, _ => v = .int .i64 (tg : Int)
  | 6, v, _, _, w => ∃ a k, v = .agg #[.slice a L k, .int .i64 cst] ∧ Own encI 1 3 w b0 (.slice a L k) pth
  | 7, v, _, _, _ => v = ol
  | _, _, _, _, _ => True
theorem ffb_stays {ng : Value} {sb gp n tg : Nat} {cst : Int} {ol : Value} {L : Nat} {pth : List Int} {b0 : Nat} : ∀ (i : Nat) (v : Value) (lo hi : Nat) (w w' : World), FFb ng sb gp n tg cst ol L pth b0 i v lo hi w → Below w.heap.size w w' → FFb ng sb gp n tg cst ol L pth b0 i v lo hi w'
  | 0, _, _, _, _, _, h, _ => h
  | 1, _, _, _, _, _, h, _ => h
  | 2, _, _, _, _, _, h, _ => h
  | 3, _, _, _, _, _, h, _ => h
  | 4, _, _, _, _, _, h, _ => h
  | 5, _, _, _, _, _, h, _ => h
  | 6, _, _, _, _, _, ⟨a, k, h1, h2⟩, hb => ⟨a, k, h1, h2.stays hb⟩
  | 7, _, _, _, _, _, h, _ => h
  | _ + 8, _, _, _, _, _, _, _ => trivial
end Go.Proofs.Ytcehdpeeaogpiaa
