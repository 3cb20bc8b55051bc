/-
  From its start a search comes to an end. No program here.
-/
import Derived.Test.YtcehdpeeaogpiaaStarTot
import Derived.Test.YtcehdpeeaogpiaaStarO
namespace Go.Proofs.Ytcehdpeeaogpiaa
set_option linter.unusedSimpArgs false
set_option linter.unusedVariables false
theorem sok_start {n v : Nat} (h : Nat → Int) : SOk n v h (sStart h v) := by
  unfold sStart
  split
  · exact ⟨by simp [s00], fun u hu => by simp [s00] at hu, fun u => .inl rfl, fun u hu => by simp [s00] at hu⟩
  · rename_i hf
    refine ⟨by simp, fun u hu => by simp at hu, fun u => ?_, fun u hu => ?_⟩
    · by_cases huv : u = v
      · subst huv; right; simp [upz_same]
      · left; show upz (fun _ => FAR) v 0 u = FAR; rw [upz_other _ _ huv]
    · by_cases huv : u = v
      · subst huv; exact hf
      · have : upz (fun _ => FAR) v 0 u < FAR := hu
        rw [upz_other _ _ huv] at this
        omega
theorem srun_start {key : Int → Int → Int} {n tg v : Nat} {es : List Ed} (hes : Right n es) (hpos : ∀ e ∈ es, 1 ≤ e.c) (h : Nat → Int) (hn : n ≤ 64) : ∃ o, SRun key (nes es) h n tg (sStart h v) o := by
  refine srun_total (f := v) (fun e he => ?_) hn n _ (sok_start h) (by omega)
  obtain ⟨x, hx, rfl⟩ := nes_mem he
  have h1 := hes x hx
  have h2 := hpos x hx
  exact ⟨by simp only; omega, h1.2.2.2.2.2⟩
end Go.Proofs.Ytcehdpeeaogpiaa
