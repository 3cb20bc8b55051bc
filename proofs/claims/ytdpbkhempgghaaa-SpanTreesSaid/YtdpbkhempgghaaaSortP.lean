/-
  Pairs put in their places, and what a heap hands out: the same order. No program here.
-/
import Derived.Test.YtdpbkhempgghaaaHeapL
namespace Go.Proofs.Ytdpbkhempgghaaa
set_option linter.unusedVariables false

def insP (x : P2) : List P2 → List P2 | [] => [x] | y :: r => if popLt x y = true then x :: y :: r else y :: insP x r
def sortP (l : List P2) : List P2 := l.foldl (fun o x => insP x o) []
def SortedP (l : List P2) : Prop := l.Pairwise fun a b => popLt b a = false
theorem insP_perm (x : P2) : ∀ l : List P2, (insP x l).Perm (x :: l)
  | [] => List.Perm.refl _
  | y :: r => by
    unfold insP
    split
    · exact List.Perm.refl _
    · exact ((insP_perm x r).cons y).trans (List.Perm.swap ..)
theorem insP_sorted (x : P2) : ∀ l : List P2, SortedP l → SortedP (insP x l)
  | [], _ => by simp [insP, SortedP]
  | y :: r, h => by
    have hy := List.pairwise_cons.1 h
    unfold insP
    split
    · rename_i hl
      refine List.pairwise_cons.2 ⟨fun z hz => ?_, h⟩
      have h1 : popLt y x = false := popLt_ord.asym _ _ hl
      rcases List.mem_cons.1 hz with rfl | hz
      · exact h1
      · exact popLt_ord.trans _ _ _ h1 (hy.1 z hz)
    · rename_i hl
      refine List.pairwise_cons.2 ⟨fun z hz => ?_, insP_sorted x r hy.2⟩
      rcases List.mem_cons.1 ((insP_perm x r).mem_iff.1 hz) with rfl | hz
      · simpa using hl
      · exact hy.1 z hz
theorem insP_len (x : P2) (l : List P2) : (insP x l).length = l.length + 1 := (insP_perm x l).length_eq
theorem sortP_snoc (l : List P2) (x : P2) : sortP (l ++ [x]) = insP x (sortP l) := by simp [sortP]
theorem sortP_ok (l : List P2) : (sortP l).Perm l ∧ SortedP (sortP l) := by
  have key : ∀ (l o : List P2), SortedP o → (l.foldl (fun o x => insP x o) o).Perm (o ++ l) ∧ SortedP (l.foldl (fun o x => insP x o) o) := by
    intro l
    induction l with
    | nil => intro o h; simpa using h
    | cons x r ih =>
      intro o h
      obtain ⟨h1, h2⟩ := ih (insP x o) (insP_sorted x o h)
      refine ⟨h1.trans ?_, h2⟩
      refine ((insP_perm x o).append_right r).trans ?_
      simp only [List.cons_append]
      exact List.perm_middle.symm
  have := key l [] List.Pairwise.nil
  simpa [sortP] using this
theorem popLt_eq {a b : P2} (h1 : popLt a b = false) (h2 : popLt b a = false) : a = b := by
  obtain ⟨a1, a2⟩ := a
  obtain ⟨b1, b2⟩ := b
  simp only [popLt, Bool.or_eq_false_iff, Bool.and_eq_false_iff, decide_eq_false_iff_not] at h1 h2
  rw [P2.mk.injEq]
  omega
theorem sorted_eq {l m : List P2} (h1 : SortedP l) (h2 : SortedP m) (hp : l.Perm m) : l = m :=
  List.Perm.eq_of_pairwise (fun a b _ _ h1 h2 => popLt_eq h2 h1) h1 h2 hp
theorem sortP_unique {l m : List P2} (hp : l.Perm m) : sortP l = sortP m :=
  sorted_eq (sortP_ok l).2 (sortP_ok m).2 ((sortP_ok l).1.trans (hp.trans (sortP_ok m).1.symm))
theorem sortP_self {l : List P2} (h : SortedP l) : sortP l = l := sorted_eq (sortP_ok l).2 h (sortP_ok l).1
/-- the least is the first -/
theorem sortP_least {p : P2} {l : List P2} (h : ∀ q ∈ l, popLt q p = false) : sortP (p :: l) = p :: sortP l := by
  refine sorted_eq (sortP_ok _).2 ?_ ((sortP_ok _).1.trans ((sortP_ok l).1.symm.cons p))
  exact List.pairwise_cons.2 ⟨fun q hq => h q ((sortP_ok l).1.mem_iff.1 hq), (sortP_ok l).2⟩
/-- where it is put -/
theorem insP_at (x : P2) : ∀ (l : List P2) (i : Nat) (hi : i ≤ l.length), (∀ j (h : j < i), popLt x (l[j]'(by omega)) = false) → (∀ h : i < l.length, popLt x l[i] = true) → insP x l = l.take i ++ x :: l.drop i
  | [], i, hi, _, _ => by simp [insP]
  | y :: r, 0, _, _, h2 => by
    have := h2 (by simp)
    simp only [List.getElem_cons_zero] at this
    simp [insP, this]
  | y :: r, i + 1, hi, h1, h2 => by
    have h0 := h1 0 (by omega)
    simp only [List.getElem_cons_zero] at h0
    simp only [List.take_succ_cons, List.drop_succ_cons, List.cons_append]
    unfold insP
    rw [if_neg (by simp [h0])]
    congr 1
    refine insP_at x r i (by simp at hi; omega) (fun j hj => ?_) (fun h => ?_)
    · have := h1 (j + 1) (by omega)
      simpa using this
    · have := h2 (by simp; omega)
      simpa using this
/-- the n first, one more put in, are the n first of all -/
theorem ins_take (x : P2) : ∀ (l : List P2) (n : Nat), (insP x (l.take n)).take n = (insP x l).take n
  | [], n => by simp
  | y :: r, 0 => by simp
  | y :: r, n + 1 => by
    simp only [List.take_succ_cons]
    unfold insP
    split
    · simp only [List.take_succ_cons]
      cases n with
      | zero => simp
      | succ m => simp [List.take_take]
    · simp only [List.take_succ_cons]
      rw [ins_take x r n]
/-- the greatest of n + 1 in order is the last -/
theorem greatest_last {t : P2} {l s : List P2} (hs : SortedP s) (hp : (t :: l).Perm s) (hg : ∀ q ∈ l, popLt t q = false) : l.Perm (s.take l.length) := by
  have hlen : s.length = l.length + 1 := by simpa using hp.length_eq.symm
  have hne : s ≠ [] := by intro e; rw [e] at hlen; simp at hlen
  have hd : s = s.dropLast ++ [s.getLast hne] := (List.dropLast_concat_getLast hne).symm
  have hlast : s.getLast hne = t := by
    have hm := hp.mem_iff.1 (List.mem_cons_self ..)
    have hgl : s.getLast hne ∈ t :: l := hp.mem_iff.2 (List.getLast_mem hne)
    have h1 : popLt t (s.getLast hne) = false := by
      rcases List.mem_cons.1 hgl with e | e
      · rw [e]; exact popLt_ord.irr _
      · exact hg _ e
    have h2 : popLt (s.getLast hne) t = false := by
      rw [hd] at hm
      rcases List.mem_append.1 hm with h | h
      · have hs2 : SortedP (s.dropLast ++ [s.getLast hne]) := by rw [← hd]; exact hs
        replace hs2 := List.pairwise_append.1 hs2
        exact hs2.2.2 t h _ (List.mem_singleton.2 rfl)
      · have := List.mem_singleton.1 h
        rw [← this]; exact popLt_ord.irr _
    exact popLt_eq h2 h1
  have ht : s.take l.length = s.dropLast := by rw [List.dropLast_eq_take, hlen]; rfl
  rw [ht]
  rw [hd, hlast] at hp
  have hp2 : (t :: l).Perm (t :: s.dropLast) := hp.trans (List.perm_append_singleton _ _)
  exact hp2.cons_inv
end Go.Proofs.Ytdpbkhempgghaaa
