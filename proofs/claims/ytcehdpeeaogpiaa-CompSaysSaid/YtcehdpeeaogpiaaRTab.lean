/-
  What the reference's Table returns: is it a table of n places? Conditions: it reads.
-/
import Derived.Test.YtcehdpeeaogpiaaHFit
import Derived.Test.YtcehdpeeaogpiaaConcatS
import Derived.Test.YtcehdpeeaogpiaaListI
namespace Go.Proofs.Ytcehdpeeaogpiaa
open Go.RowKit
set_option linter.unusedSimpArgs false
set_option linter.unusedVariables false
def toS3 (s : SRt) : S3 := ⟨s.a, s.xs.length, s.c⟩
theorem row_toS3 {w : World} {B : Nat} {a : Option Addr} {ss : List SRt} (h : Row encR 1 w B a ss) : Row encS 1 w B a (ss.map toS3) := by
  intro i hi
  have hi' : i < ss.length := by simpa using hi
  obtain ⟨b, o, e1, e2, e3⟩ := h i hi'
  exact ⟨b, o, e1, e2, fun j u hu => e3 j u (by simpa [toS3, encS, encR] using hu)⟩
theorem row_ofS3 {w : World} {B : Nat} {a : Option Addr} {ss : List SRt} (h : Row encS 1 w B a (ss.map toS3)) : Row encR 1 w B a ss := by
  intro i hi
  obtain ⟨b, o, e1, e2, e3⟩ := h i (by simpa using hi)
  exact ⟨b, o, e1, e2, fun j u hu => e3 j u (by simpa [toS3, encS, encR] using hu)⟩
theorem row_two3 (w : World) (t : TypeId) (x y : S3) : Row encS 1 (w.alloc (.cells #[.slice x.a x.n x.c, .slice y.a y.n y.c] t)) (w.heap.size + 1) (some ⟨w.heap.size, 0, none⟩) [x, y] := by
  intro i hi
  refine ⟨w.heap.size, 0, rfl, by omega, fun j u hu => ?_⟩
  have hi2 : i = 0 ∨ i = 1 := by simp at hi; omega
  rcases hi2 with rfl | rfl
  · match j, hu with
    | 0, hu => simp [encS] at hu; subst hu; simp [go_sem]
  · match j, hu with
    | 0, hu => simp [encS] at hu; subst hu; simp [go_sem]
