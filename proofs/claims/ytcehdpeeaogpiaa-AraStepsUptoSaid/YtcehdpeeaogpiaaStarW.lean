/-
  The reference's search: its lists and maps against costs, ways and order. No program here.
-/
import Derived.Test.YtcehdpeeaogpiaaRBack
import Derived.Test.YtcehdpeeaogpiaaListI
import Derived.Test.YtcehdpeeaogpiaaIMapA
import Derived.Test.YtcehdpeeaogpiaaHeapT
namespace Go.Proofs.Ytcehdpeeaogpiaa
open Go.RowKit
set_option linter.unusedSimpArgs false
set_option linter.unusedVariables false
/-- the costs so far as the reference's map has them -/
def costM (n : Nat) (cost : Nat → Int) : Int → Option Int := fun x => if 0 ≤ x ∧ x < (n : Int) ∧ cost x.toNat < FAR then some (cost x.toNat) else none
theorem costM_at {n u : Nat} {cost : Nat → Int} (hu : u < n) (hc : cost u < FAR) : costM n cost (u : Int) = some (cost u) := by
  unfold costM
  rw [if_pos ⟨by omega, by omega, by simpa using hc⟩]
  simp
theorem costM_no {n u : Nat} {cost : Nat → Int} (hc : ¬ cost u < FAR) : costM n cost (u : Int) = none := by
  unfold costM
  rw [if_neg (fun h => hc (by simpa using h.2.2))]
def fstep (pl : Nat → Ed) (b : Int) (v : Nat) : Int := if b < 0 ∨ plLt (pl v) (pl b.toNat) = true then (v : Int) else b
def firstR (pl : Nat → Ed) (l : List Nat) : Int := l.foldl (fstep pl) (-1)
theorem firstR_from (pl : Nat → Ed) : ∀ (l : List Nat) (b : Nat), ∃ v : Nat, l.foldl (fstep pl) (b : Int) = (v : Int) ∧ (v = b ∨ v ∈ l) ∧ plLt (pl b) (pl v) = false ∧ ∀ u ∈ l, plLt (pl u) (pl v) = false
  | [], b => ⟨b, rfl, .inl rfl, plLt_ord.irr _, fun u hu => by cases hu⟩
  | x :: r, b => by
    rw [List.foldl_cons]
    by_cases h : plLt (pl x) (pl b) = true
    · have e : fstep pl (b : Int) x = (x : Int) := by unfold fstep; rw [if_pos (.inr (by simpa using h))]
      rw [e]
      obtain ⟨v, h1, h2, h3, h4⟩ := firstR_from pl r x
      refine ⟨v, h1, ?_, ?_, fun u hu => ?_⟩
      · rcases h2 with rfl | h2
        · exact .inr (List.mem_cons_self ..)
        · exact .inr (List.mem_cons_of_mem _ h2)
      · exact plLt_ord.trans _ _ _ h3 (plLt_ord.asym _ _ h)
      · rcases List.mem_cons.1 hu with rfl | hu
        · exact h3
        · exact h4 u hu
    · have h' : plLt (pl x) (pl b) = false := by simpa using h
      have e : fstep pl (b : Int) x = (b : Int) := by unfold fstep; rw [if_neg (by rintro (h1 | h1); omega; exact h (by simpa using h1))]
      rw [e]
      obtain ⟨v, h1, h2, h3, h4⟩ := firstR_from pl r b
      refine ⟨v, h1, ?_, h3, fun u hu => ?_⟩
      · rcases h2 with rfl | h2
        · exact .inl rfl
        · exact .inr (List.mem_cons_of_mem _ h2)
      · rcases List.mem_cons.1 hu with rfl | hu
        · exact plLt_ord.trans _ _ _ h3 h'
        · exact h4 u hu
theorem firstR_mem (pl : Nat → Ed) {l : List Nat} (h : l ≠ []) : ∃ v : Nat, firstR pl l = (v : Int) ∧ v ∈ l ∧ ∀ u ∈ l, plLt (pl u) (pl v) = false := by
  cases l with
  | nil => exact absurd rfl h
  | cons x r =>
    have e : fstep pl (-1) x = (x : Int) := by unfold fstep; rw [if_pos (.inl (by omega))]
    unfold firstR
    rw [List.foldl_cons, e]
    obtain ⟨v, h1, h2, h3, h4⟩ := firstR_from pl r x
    refine ⟨v, h1, ?_, fun u hu => ?_⟩
    · rcases h2 with rfl | h2
      · exact List.mem_cons_self ..
      · exact List.mem_cons_of_mem _ h2
    · rcases List.mem_cons.1 hu with rfl | hu
      · exact h3
      · exact h4 u hu
/-- the list of those that wait -/
structure WL (n : Nat) (s : SR) (ws : List Nat) : Prop where
  nd : ws.Nodup
  iff : ∀ v, v ∈ ws ↔ Waits n s v
theorem wl_len {n : Nat} {s : SR} {ws : List Nat} (h : WL n s ws) : ws.length ≤ n := nodup_shortS n ws h.nd (fun v hv => ((h.iff v).1 hv).1)
theorem wl_next {n : Nat} {s : SR} {ws : List Nat} {h : Nat → Int} {key : Int → Int → Int} (hw : WL n s ws) {v : Nat} (hv : v ∈ ws) (hm : ∀ u ∈ ws, plLt (plOf key h s.cost u) (plOf key h s.cost v) = false) : IsNext key h n s v :=
  ⟨(hw.iff v).1 hv, fun u hu => hm u ((hw.iff u).2 hu)⟩
theorem wl_look {n : Nat} {s : SR} {ws : List Nat} (hw : WL n s ws) (v : Nat) : WL n (look1 s v) (ws.filter fun x => decide (x ≠ v)) := by
  refine ⟨hw.nd.filter _, fun u => ?_⟩
  rw [List.mem_filter, hw.iff u]
  simp only [Waits, look1, List.mem_append, List.mem_singleton, not_or, decide_eq_true_eq]
  exact ⟨fun ⟨⟨a, b, c⟩, d⟩ => ⟨a, b, c, d⟩, fun ⟨a, b, c, d⟩ => ⟨⟨a, b, c⟩, d⟩⟩
theorem sedge_no {h : Nat → Int} {v : Nat} {s : SR} {e : NE} (hc : ¬ (e.u = v ∧ h e.v ≠ FAR ∧ e.v ∉ s.ord ∧ s.cost v + e.c < s.cost e.v)) : sedge h v s e = s := if_neg hc
theorem sedge_yes {h : Nat → Int} {v : Nat} {s : SR} {e : NE} (h1 : e.u = v) (h2 : h e.v ≠ FAR) (h3 : e.v ∉ s.ord) (h4 : s.cost v + e.c < s.cost e.v) : sedge h v s e = { s with cost := upz s.cost e.v (s.cost v + e.c), pred := upz s.pred e.v (v : Int) } := if_pos ⟨h1, h2, h3, h4⟩
theorem wl_old {n : Nat} {s : SR} {ws : List Nat} (hw : WL n s ws) {u : Nat} {c : Int} {p : Nat → Int} (hu : u ∈ ws) (hc : c < FAR) : WL n { s with cost := upz s.cost u c, pred := p } ws := by
  refine ⟨hw.nd, fun z => ?_⟩
  rw [hw.iff z]
  by_cases hz : z = u
  · subst hz
    have hh := (hw.iff z).1 hu
    simp only [Waits, upz_same]
    exact ⟨fun h => ⟨h.1, hc, h.2.2⟩, fun h => hh⟩
  · simp only [Waits]
    rw [upz_other _ _ hz]
theorem wl_new {n : Nat} {s : SR} {ws : List Nat} (hw : WL n s ws) {u : Nat} {c : Int} {p : Nat → Int} (hun : u < n) (hu : u ∉ ws) (ho : u ∉ s.ord) (hc : c < FAR) : WL n { s with cost := upz s.cost u c, pred := p } (ws ++ [u]) := by
  refine ⟨List.nodup_append.2 ⟨hw.nd, by simp, fun a ha b hb e => by simp at hb; subst hb; exact hu (e ▸ ha)⟩, fun z => ?_⟩
  rw [List.mem_append, List.mem_singleton, hw.iff z]
  by_cases hz : z = u
  · subst hz
    simp only [Waits, upz_same]
    exact ⟨fun _ => ⟨hun, hc, ho⟩, fun _ => .inr trivial⟩
  · simp only [Waits]
    rw [upz_other _ _ hz]
    exact ⟨fun h => h.resolve_right hz, fun h => .inl h⟩
theorem lp_mem {u : Nat} {l : List Nat} : (u : Int) ∈ LP l ↔ u ∈ l := by
  unfold LP
  rw [List.mem_map]
  constructor
  · rintro ⟨v, h1, h2⟩
    have : v = u := by omega
    exact this ▸ h1
  · intro h
    exact ⟨u, h, rfl⟩
theorem lp_app (l : List Nat) (u : Nat) : LP (l ++ [u]) = LP l ++ [(u : Int)] := by simp [LP]
theorem dels_lp (u : Nat) (l : List Nat) : dels (u : Int) (LP l) = LP (l.filter fun x => decide (x ≠ u)) := by
  unfold dels LP
  induction l with
  | nil => rfl
  | cons x r ih =>
    rw [List.map_cons, List.filter_cons, List.filter_cons]
    by_cases h : x = u
    · subst h
      simp at ih ⊢
      exact ih
    · have h1 : ((x : Int) == (u : Int)) = false := by simp; omega
      rw [h1]
      simp only [Bool.not_false, if_true, decide_eq_true_eq, ne_eq, h, not_false_eq_true, List.map_cons, ih]
theorem upzM (n u : Nat) (f : Nat → Int) (c : Int) (x : Int) : upz f u c x.toNat = if x.toNat = u then c else f x.toNat := rfl
theorem costM_set {n u : Nat} {c : Int} {cost : Nat → Int} (hu : u < n) (hc : c < FAR) : setM (costM n cost) (u : Int) c = costM n (upz cost u c) := by
  funext x
  simp only [costM, setM]
  by_cases hx : x = (u : Int)
  · subst hx
    rw [if_pos rfl]
    simp only [Int.toNat_natCast, upz_same]
    rw [if_pos ⟨by omega, by omega, hc⟩]
  · rw [if_neg hx]
    by_cases hx0 : 0 ≤ x
    · rw [upz_other _ _ (by omega)]
    · rw [if_neg (fun h => hx0 h.1), if_neg (fun h => hx0 h.1)]
theorem predM_set {n u v : Nat} {pred : Nat → Int} (hu : u < n) : setM (predM n pred) (u : Int) (v : Int) = predM n (upz pred u (v : Int)) := by
  funext x
  simp only [predM, setM]
  by_cases hx : x = (u : Int)
  · subst hx
    rw [if_pos rfl]
    simp only [Int.toNat_natCast, upz_same]
    rw [if_pos ⟨by omega, by omega, by omega⟩]
  · rw [if_neg hx]
    by_cases hx0 : 0 ≤ x
    · rw [upz_other _ _ (by omega)]
    · rw [if_neg (fun h => hx0 h.1), if_neg (fun h => hx0 h.1)]
theorem costM_start {n v : Nat} (hv : v < n) : setM (fun _ => none) (v : Int) 0 = costM n (upz (fun _ => FAR) v 0) := by
  rw [← costM_set hv (by unfold FAR; omega)]
  congr 1
  funext x
  simp only [costM]
  rw [if_neg (fun h => by have := h.2.2; omega)]
theorem predM_start (n : Nat) : predM n (fun _ => -1) = fun _ => none := by
  funext x
  simp only [predM]
  rw [if_neg (fun h => by have := h.2.2; omega)]
theorem costM_look {n u : Nat} {cost : Nat → Int} (hu : u < n) : (costM n cost (u : Int) = some (cost u) ∧ cost u < FAR) ∨ (costM n cost (u : Int) = none ∧ ¬ cost u < FAR) := by
  by_cases h : cost u < FAR
  · exact .inl ⟨costM_at hu h, h⟩
  · exact .inr ⟨costM_no h, h⟩
/-- what the reference's search holds: the two maps, the two lists -/
structure TX (n mb pb k : Nat) (aw ao : Value) (ws : List Nat) (s : SR) (w1 wr : World) : Prop where
  cm : IMap wr mb k (costM n s.cost)
  pm : IMap wr pb k (predM n s.pred)
  wt : Own encI 1 3 wr w1.heap.size aw (LP ws)
  od : Own encI 1 3 wr w1.heap.size ao (LP s.ord)
  ap : ∀ j, ao.ownBlock = some j → aw.ownBlock ≠ some j
  keep : Keep (fun j => j = mb ∨ j = pb) w1 wr
  lt : mb < w1.heap.size ∧ pb < w1.heap.size ∧ mb ≠ pb
section
variable {n mb pb k k' : Nat} {aw ao aw' ao' : Value} {ws ws' : List Nat} {s : SR} {w1 wr w' : World}
theorem TX.stays (h : TX n mb pb k aw ao ws s w1 wr) (b : Below wr.heap.size wr w') : TX n mb pb k aw ao ws s w1 w' :=
  ⟨h.cm.stays b, h.pm.stays b, h.wt.stays b, h.od.stays b, h.ap, h.keep.trans (Keep.new b), h.lt⟩
theorem TX.setW (h : TX n mb pb k aw ao ws s w1 wr) (kp : Keep (fun j => aw.ownBlock = some j) wr w') (own : Own encI 1 3 w' w1.heap.size aw' (LP ws')) (hb : ∀ j, aw'.ownBlock = some j → aw.ownBlock = some j ∨ wr.heap.size ≤ j) : TX n mb pb k aw' ao ws' s w1 w' := by
  have hl := h.lt
  have ha : ∀ j, aw.ownBlock = some j → w1.heap.size ≤ j := fun j hj => (h.wt.block_lt j hj).1
  refine ⟨h.cm.keep kp (fun e => by have := ha _ e; omega), h.pm.keep kp (fun e => by have := ha _ e; omega), own, kp.own h.od (fun j hj => h.ap j hj), fun j hj e => ?_, h.keep.trans2 kp (fun j hj => .inr (ha j hj)), h.lt⟩
  rcases hb j e with h1 | h1
  · exact h.ap j hj h1
  · have := (h.od.block_lt j hj).2; omega
theorem TX.setO (h : TX n mb pb k aw ao ws s w1 wr) (l : List Nat) (kp : Keep (fun j => ao.ownBlock = some j) wr w') (own : Own encI 1 3 w' w1.heap.size ao' (LP l)) (hb : ∀ j, ao'.ownBlock = some j → ao.ownBlock = some j ∨ wr.heap.size ≤ j) : TX n mb pb k aw ao' ws { s with ord := l } w1 w' := by
  have hl := h.lt
  have ha : ∀ j, ao.ownBlock = some j → w1.heap.size ≤ j := fun j hj => (h.od.block_lt j hj).1
  refine ⟨h.cm.keep kp (fun e => by have := ha _ e; omega), h.pm.keep kp (fun e => by have := ha _ e; omega), kp.own h.wt (fun j hj e => h.ap j e hj), own, fun j hj e => ?_, h.keep.trans2 kp (fun j hj => .inr (ha j hj)), h.lt⟩
  rcases hb j hj with h1 | h1
  · exact h.ap j h1 e
  · have := (h.wt.block_lt j e).2; omega
theorem TX.setM (h : TX n mb pb k aw ao ws s w1 wr) (c p : Nat → Int) (kp : Keep (fun j => j = mb ∨ j = pb) wr w') (h1 : IMap w' mb k' (costM n c)) (h2 : IMap w' pb k' (predM n p)) : TX n mb pb k' aw ao ws { s with cost := c, pred := p } w1 w' := by
  have hl := h.lt
  exact ⟨h1, h2, kp.own h.wt (fun j hj e => by have := (h.wt.block_lt j hj).1; omega), kp.own h.od (fun j hj e => by have := (h.od.block_lt j hj).1; omega), h.ap, h.keep.trans kp, h.lt⟩
theorem TX.cu (h : TX n mb pb k aw ao ws s w1 wr) {p : Addr} {v : Value} (hc : w1.cell? p = some v) (h1 : p.block ≠ mb) (h2 : p.block ≠ pb) : wr.cell? p = some v := h.keep.cu hc (fun e => by rcases e with e | e; exact h1 e; exact h2 e)
end
/-- what each operation of Search's answer leaves -/
def FRb (mb pb n tg : Nat) (fr cst : Int) (ol : Value) (l : List Nat) (b0 : Nat) : Nat → Value → Nat → Nat → World → Prop
  | 0, v, _, _, _ => v = .map (some pb)
  | 1, v, _, _, _ => v = .int .i64 fr
  | 2, v, _, _, _ => v = .int .i64 (tg : Int)
  | 3, v, _, _, w => ∃ a k, v = .slice a l.length k ∧ Own encI 1 3 w b0 (.slice a l.length k) (LP l.reverse)
  | 4, v, _, _, _ => v = .map (some mb)
  | 5, v, _, _, _ => v = .int .i64 (tg : Int)
  | 6, v, _, _, _ => v = .int .i64 cst
  | 7, v, _, _, w => ∃ a k, v = .agg #[.slice a l.length k, .int .i64 cst] ∧ Own encI 1 3 w b0 (.slice a l.length k) (LP l.reverse)
  | 8, v, _, _, _ => v = ol
  | _, _, _, _, _ => True
theorem frb_stays {mb pb n tg : Nat} {fr cst : Int} {ol : Value} {l : List Nat} {b0 : Nat} : ∀ (i : Nat) (v : Value) (lo hi : Nat) (w w' : World), FRb mb pb n tg fr cst ol l b0 i v lo hi w → Below w.heap.size w w' → FRb mb pb n tg fr cst ol l b0 i v lo hi w'
  | 0, _, _, _, _, _, h, _ => h
  | 1, _, _, _, _, _, h, _ => h
  | 2, _, _, _, _, _, h, _ => h
  | 3, _, _, _, _, _, ⟨a, k, h1, h2⟩, hb => ⟨a, k, h1, h2.stays hb⟩
  | 4, _, _, _, _, _, h, _ => h
  | 5, _, _, _, _, _, h, _ => h
  | 6, _, _, _, _, _, h, _ => h
  | 7, _, _, _, _, _, ⟨a, k, h1, h2⟩, hb => ⟨a, k, h1, h2.stays hb⟩
  | 8, _, _, _, _, _, h, _ => h
  | _ + 9, _, _, _, _, _, _, _ => trivial
end Go.Proofs.Ytcehdpeeaogpiaa
