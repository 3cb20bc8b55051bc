/-
  A part of the proof of ServePlays: GridIn SvP SvM
-/
import Derived.Test.YtccailcjclbhlaaGreatServePlaysA14
import Derived.Test.YtccailcjclbhlaaGreatServePlaysA13
/-! The moves of right ground stay on it. No program here. -/
namespace Go.Proofs.YtccailcjclbhlaaGreat
set_option linter.unusedVariables false
theorem movesTo_mem {W H : Int} {cs : List Int} {p x y : Int} {e : Ed} : ∀ (k : Nat), e ∈ movesTo W H cs p x y k → ∃ j, moveAt W H cs p x y j = some e
  | 0, h => by simp [movesTo] at h
  | k + 1, h => by
    cases hm : moveAt W H cs p x y k with
    | none =>
      rw [movesTo_none hm] at h
      exact movesTo_mem k h
    | some e' =>
      rw [movesTo_some hm] at h
      rcases List.mem_append.1 h with h | h
      · exact movesTo_mem k h
      · obtain rfl := List.mem_singleton.1 h
        exact ⟨k, hm⟩
theorem ground_in {W H : Int} {cs : List Int} {x y : Int} (hcs : ∀ c ∈ cs, 0 ≤ c ∧ c ≤ 9) : 0 ≤ groundV W H cs x y ∧ groundV W H cs x y ≤ 9 ∧ (groundV W H cs x y ≠ 0 → 0 ≤ x ∧ x < W ∧ 0 ≤ y ∧ y < H) := by
  unfold groundV
  by_cases h : x < 0 ∨ x ≥ W ∨ y < 0 ∨ y ≥ H
  · rw [if_pos h]; simp
  · rw [if_neg h]
    refine ⟨?_, ?_, fun _ => by omega⟩
    all_goals
      unfold List.getD
      rcases Nat.lt_or_ge (y * W + x).toNat cs.length with h2 | h2
      · rw [List.getElem?_eq_getElem h2, Option.getD_some]
        have := hcs _ (List.getElem_mem h2)
        omega
      · rw [List.getElem?_eq_none h2]; simp
theorem moveAt_in {W H : Int} {cs : List Int} {p x y : Int} {j : Nat} {e : Ed} (hcs : ∀ c ∈ cs, 0 ≤ c ∧ c ≤ 9) (h0 : groundV W H cs x y ≠ 0) (h : moveAt W H cs p x y j = some e) : e.u = p ∧ 0 ≤ e.v ∧ e.v < W * H ∧ 1 ≤ e.c ∧ e.c ≤ 126 := by
  have a := ground_in (W := W) (H := H) (x := x) (y := y) hcs
  have b := ground_in (W := W) (H := H) (x := x + dirX j) (y := y + dirY j) hcs
  have key : groundV W H cs (x + dirX j) (y + dirY j) ≠ 0 → 0 ≤ (y + dirY j) * W + x + dirX j ∧ (y + dirY j) * W + x + dirX j < W * H := fun hn => by
    obtain ⟨c1, c2, c3, c4⟩ := b.2.2 hn
    have d1 : 0 ≤ (y + dirY j) * W := Int.mul_nonneg c3 (by omega)
    have d2 : (y + dirY j) * W ≤ (H - 1) * W := Int.mul_le_mul_of_nonneg_right (by omega) (by omega)
    have d3 : (H - 1) * W = W * H - W := by rw [Int.sub_mul, Int.one_mul, Int.mul_comm]
    omega
  unfold moveAt at h
  by_cases h1 : groundV W H cs (x + dirX j) (y + dirY j) = 0
  · rw [if_pos h1] at h; cases h
  · rw [if_neg h1] at h
    have hk := key h1
    by_cases h2 : dirX j ≠ 0 ∧ dirY j ≠ 0
    · rw [if_pos h2] at h
      by_cases h3 : groundV W H cs (x + dirX j) y = 0
      · rw [if_pos h3] at h; cases h
      · rw [if_neg h3] at h
        by_cases h4 : groundV W H cs x (y + dirY j) = 0
        · rw [if_pos h4] at h; cases h
        · rw [if_neg h4] at h
          cases h
          refine ⟨rfl, ?_, ?_, ?_, ?_⟩ <;> dsimp only <;> omega
    · rw [if_neg h2] at h
      cases h
      refine ⟨rfl, ?_, ?_, ?_, ?_⟩ <;> dsimp only <;> omega
theorem gridNet_in {W H : Int} {cs : List Int} (h0 : gridErr W H cs = 0) : ∀ e ∈ gridNet W H cs cs.length, 0 ≤ e.u ∧ e.u < (cs.length : Int) ∧ 0 ≤ e.v ∧ e.v < (cs.length : Int) ∧ 1 ≤ e.c ∧ e.c ≤ 126 := by
  intro e he
  have hb := gridErr_ok h0
  have hcl := hb.2.2.2.2.1
  unfold gridNet at he
  obtain ⟨i, hi, he⟩ := List.mem_flatMap.1 he
  have hi := List.mem_range.1 hi
  unfold gridMoves mlist at he
  by_cases q : groundV W H cs ((i : Int) % W) ((i : Int) / W) = 0
  · rw [if_pos q] at he; cases he
  · rw [if_neg q] at he
    obtain ⟨j, hj⟩ := movesTo_mem 8 he
    have := moveAt_in hb.2.2.2.2.2 q hj
    omega
end Go.Proofs.YtccailcjclbhlaaGreat
/-! A service of requests: what each call answers and what it leaves, whoever plays it. No program here. -/
namespace Go.Proofs.YtccailcjclbhlaaGreat
set_option linter.unusedSimpArgs false
set_option linter.unusedVariables false
/-- a request: from, to, weights, its search on the ground of now, what it was told last on another -/
structure Sq where
  f : Nat
  t : Nat
  ws : List P2
  s : AS
  kept : Option RD
structure Sv where
  W : Int
  H : Int
  cs : List Int
  sl : Nat → Option Sq
  turn : Nat
def hZ : Nat → Int := fun _ => 0
def Sv.es (σ : Sv) : List Ed := gridNet σ.W σ.H σ.cs σ.cs.length
noncomputable def pickA (p : AS → Prop) : AS := @Classical.epsilon AS ⟨a00⟩ p
theorem pickA_is {p : AS → Prop} {s : AS} (h : p s) (one : ∀ a b, p a → p b → a = b) : s = pickA p := one _ _ h (@Classical.epsilon_spec AS p ⟨s, h⟩)
/-- a search begun -/
noncomputable def sBegin (es : List Ed) (n f t : Nat) (ws : List P2) : AS := pickA (ASettle ws es hZ n t (aStart hZ f))
theorem sBegin_is {es : List Ed} {n f t : Nat} {ws : List P2} {s : AS} (h : ASettle ws es hZ n t (aStart hZ f) s) : s = sBegin es n f t ws := pickA_is h (fun _ _ => asettle_one)
/-- a step of one -/
noncomputable def sNext (es : List Ed) (n t : Nat) (ws : List P2) (s : AS) : AS := pickA (AStep ws es hZ n t s)
theorem sNext_is {es : List Ed} {n t : Nat} {ws : List P2} {s s' : AS} (h : AStep ws es hZ n t s s') : s' = sNext es n t ws s := pickA_is h (fun _ _ => astep_one)
def sv0 (W H : Int) (cs : List Int) : Sv := ⟨W, H, cs, fun _ => none, 0⟩
def rd0 : RD := ⟨0, 0, [], 0, 0⟩
/-- status, round, error -/
def pollQ : Option Sq → Int × RD × Int
  | none => (0, rd0, 5)
  | some q => match q.s.told.getLast? with
    | some r => (if q.s.told.length = q.ws.length then 4 else 2, r, 0)
    | none => match q.kept with
      | some r => (3, r, 0)
      | none => (1, rd0, 0)
def Sv.at (σ : Sv) (id : Int) : Option Sq := if 0 ≤ id ∧ id < 6 then σ.sl id.toNat else none
noncomputable def newQ (es : List Ed) (n f t : Nat) (ws : List P2) : Sq := ⟨f, t, ws, sBegin es n f t ws, none⟩
def askErr (σ : Sv) (f t : Int) (ws : List P2) : Int := if lookErr (σ.cs.length : Int) σ.es [f, t] ≠ 0 then lookErr (σ.cs.length : Int) σ.es [f, t] else wsErr ws
/-- the first free one -/
def Free (σ : Sv) (k : Nat) : Prop := k < 6 ∧ σ.sl k = none ∧ ∀ j, j < k → σ.sl j ≠ none
def Full (σ : Sv) : Prop := ∀ j, j < 6 → σ.sl j ≠ none
theorem free_one {σ : Sv} {a b : Nat} (h : Free σ a) (k : Free σ b) : a = b := by
  rcases Nat.lt_trichotomy a b with q | q | q
  · exact absurd h.2.1 (k.2.2 a q)
  · exact q
  · exact absurd k.2.1 (h.2.2 b q)
theorem free_full {σ : Sv} {a : Nat} (h : Free σ a) (k : Full σ) : False := k a h.1 h.2.1
noncomputable def Sv.put (σ : Sv) (k : Nat) (f t : Nat) (ws : List P2) : Sv := { σ with sl := upz σ.sl k (some (newQ σ.es σ.cs.length f t ws)) }
/-- what Ask answers (number, error) and leaves -/
def AskIs (σ : Sv) (f t : Int) (ws : List P2) (n e : Int) (σ' : Sv) : Prop :=
  (askErr σ f t ws ≠ 0 ∧ n = 0 ∧ e = askErr σ f t ws ∧ σ' = σ) ∨ (askErr σ f t ws = 0 ∧ Full σ ∧ n = 0 ∧ e = 10 ∧ σ' = σ) ∨ (askErr σ f t ws = 0 ∧ ∃ k, Free σ k ∧ n = (k : Int) ∧ e = 0 ∧ σ' = σ.put k f.toNat t.toNat ws)
theorem ask_one {σ : Sv} {f t : Int} {ws : List P2} {n1 n2 e1 e2 : Int} {a b : Sv} (h : AskIs σ f t ws n1 e1 a) (k : AskIs σ f t ws n2 e2 b) : n1 = n2 ∧ e1 = e2 ∧ a = b := by
  rcases h with ⟨h1, h2, h3, h4⟩ | ⟨h1, h0, h2, h3, h4⟩ | ⟨h1, x, h0, h2, h3, h4⟩ <;> rcases k with ⟨k1, k2, k3, k4⟩ | ⟨k1, k0, k2, k3, k4⟩ | ⟨k1, y, k0, k2, k3, k4⟩
  · exact ⟨by rw [h2, k2], by rw [h3, k3], by rw [h4, k4]⟩
  · exact absurd k1 h1
  · exact absurd k1 h1
  · exact absurd h1 k1
  · exact ⟨by rw [h2, k2], by rw [h3, k3], by rw [h4, k4]⟩
  · exact (free_full k0 h0).elim
  · exact absurd h1 k1
  · exact (free_full h0 k0).elim
  · obtain rfl := free_one h0 k0
    exact ⟨by rw [h2, k2], by rw [h3, k3], by rw [h4, k4]⟩
def Sv.drop (σ : Sv) (id : Int) : Sv := { σ with sl := upz σ.sl id.toNat none }
/-- what Drop answers and leaves -/
def DropIs (σ : Sv) (id : Int) (e : Int) (σ' : Sv) : Prop := (σ.at id = none ∧ e = 5 ∧ σ' = σ) ∨ (σ.at id ≠ none ∧ e = 0 ∧ σ' = σ.drop id)
theorem drop_one {σ : Sv} {id e1 e2 : Int} {a b : Sv} (h : DropIs σ id e1 a) (k : DropIs σ id e2 b) : e1 = e2 ∧ a = b := by
  rcases h with ⟨h1, h2, h3⟩ | ⟨h1, h2, h3⟩ <;> rcases k with ⟨k1, k2, k3⟩ | ⟨k1, k2, k3⟩
  · exact ⟨by rw [h2, k2], by rw [h3, k3]⟩
  · exact absurd h1 k1
  · exact absurd k1 h1
  · exact ⟨by rw [h2, k2], by rw [h3, k3]⟩
def editErr (σ : Sv) (at' g : Int) : Int := if at' < 0 ∨ at' ≥ (σ.cs.length : Int) then 1 else if g < 0 ∨ g > 9 then 4 else 0
/-- what it was told last -/
def keptNow (q : Sq) : Option RD := match q.s.told.getLast? with | some r => some r | none => q.kept
/-- a request anew, on edges es -/
noncomputable def again (es : List Ed) (n : Nat) (q : Sq) : Sq := { q with s := sBegin es n q.f q.t q.ws, kept := keptNow q }
/-- the k first anew -/
noncomputable def Sv.edK (σ : Sv) (a : Nat) (g : Int) (k : Nat) : Sv := { σ with cs := σ.cs.set a g, sl := fun i => if i < k then (σ.sl i).map (again (gridNet σ.W σ.H (σ.cs.set a g) σ.cs.length) σ.cs.length) else σ.sl i }
def EditIs (σ : Sv) (at' g : Int) (e : Int) (σ' : Sv) : Prop :=
  (editErr σ at' g ≠ 0 ∧ e = editErr σ at' g ∧ σ' = σ) ∨ (editErr σ at' g = 0 ∧ e = 0 ∧ ((σ.cs[at'.toNat]? = some g ∧ σ' = σ) ∨ (σ.cs[at'.toNat]? ≠ some g ∧ σ' = σ.edK at'.toNat g 6)))
theorem edit_one {σ : Sv} {x g e1 e2 : Int} {a b : Sv} (h : EditIs σ x g e1 a) (k : EditIs σ x g e2 b) : e1 = e2 ∧ a = b := by
  rcases h with ⟨h1, h2, h3⟩ | ⟨h1, h2, ⟨h3, h4⟩ | ⟨h3, h4⟩⟩ <;> rcases k with ⟨k1, k2, k3⟩ | ⟨k1, k2, ⟨k3, k4⟩ | ⟨k3, k4⟩⟩
  · exact ⟨by rw [h2, k2], by rw [h3, k3]⟩
  · exact absurd k1 h1
  · exact absurd k1 h1
  · exact absurd h1 k1
  · exact ⟨by rw [h2, k2], by rw [h4, k4]⟩
  · exact absurd h3 k3
  · exact absurd h1 k1
  · exact absurd k3 h3
  · exact ⟨by rw [h2, k2], by rw [h4, k4]⟩
def liveQ : Option Sq → Prop | none => False | some q => q.s.told.length < q.ws.length
def Sv.adv (σ : Sv) : Sv := { σ with turn := (σ.turn + 1) % 6 }
noncomputable def stepQ (es : List Ed) (n : Nat) (q : Sq) : Sq := { q with s := sNext es n q.t q.ws q.s }
noncomputable def Sv.step (σ : Sv) : Sv := { σ with sl := upz σ.sl σ.turn ((σ.sl σ.turn).map (stepQ σ.es σ.cs.length)) }
def Sv.live (σ : Sv) : Prop := ∃ k, k < 6 ∧ liveQ (σ.sl k)
/-- with b steps left: what it leaves, and how many were done -/
inductive Fr : Sv → Nat → Sv → Nat → Prop
  | stop (σ : Sv) : Fr σ 0 σ 0
  | over (σ : Sv) (b : Nat) (h : ¬ σ.live) : Fr σ b σ 0
  | idle (σ : Sv) (b : Nat) (σ' : Sv) (k : Nat) (h : σ.live) (h0 : 0 < b) (hn : ¬ liveQ (σ.sl σ.turn)) (hr : Fr σ.adv b σ' k) : Fr σ b σ' k
  | step (σ : Sv) (b : Nat) (σ' : Sv) (k : Nat) (hl : liveQ (σ.sl σ.turn)) (ht : σ.turn < 6) (hr : Fr σ.step.adv b σ' k) : Fr σ (b + 1) σ' (k + 1)
theorem fr_one {σ : Sv} {b : Nat} {s1 s2 : Sv} {k1 k2 : Nat} (h : Fr σ b s1 k1) (k : Fr σ b s2 k2) : s1 = s2 ∧ k1 = k2 := by
  induction h generalizing s2 k2 with
  | stop σ =>
    cases k with
    | stop => exact ⟨rfl, rfl⟩
    | over _ _ _ => exact ⟨rfl, rfl⟩
    | idle _ _ _ _ _ h0 _ _ => omega
  | over σ b h =>
    cases k with
    | stop => exact ⟨rfl, rfl⟩
    | over _ _ _ => exact ⟨rfl, rfl⟩
    | idle _ _ _ _ hl _ _ _ => exact absurd hl h
    | step _ _ _ _ hl ht _ => exact absurd ⟨_, ht, hl⟩ h
  | idle σ b σ' k h h0 hn hr ih =>
    cases k with
    | stop => omega
    | over _ _ ho => exact absurd h ho
    | idle _ _ _ _ _ _ _ hr2 => exact ih hr2
    | step _ _ _ _ hl _ _ => exact absurd hl hn
  | step σ b σ' k hl ht hr ih =>
    cases k with
    | over _ _ ho => exact absurd ⟨_, ht, hl⟩ ho
    | idle _ _ _ _ _ _ hn _ => exact absurd hl hn
    | step _ _ _ _ _ _ hr2 =>
      obtain ⟨rfl, rfl⟩ := ih hr2
      exact ⟨rfl, rfl⟩
def frameErr (b : Int) : Int := if b < 0 ∨ b > 10000 then 1 else 0
def FrameIs (σ : Sv) (b : Int) (n e : Int) (σ' : Sv) : Prop := (frameErr b ≠ 0 ∧ n = 0 ∧ e = 1 ∧ σ' = σ) ∨ (frameErr b = 0 ∧ e = 0 ∧ ∃ k : Nat, n = (k : Int) ∧ Fr σ b.toNat σ' k)
theorem frame_one {σ : Sv} {b n1 n2 e1 e2 : Int} {a c : Sv} (h : FrameIs σ b n1 e1 a) (k : FrameIs σ b n2 e2 c) : n1 = n2 ∧ e1 = e2 ∧ a = c := by
  rcases h with ⟨h1, h2, h3, h4⟩ | ⟨h1, h3, x, h2, h4⟩ <;> rcases k with ⟨k1, k2, k3, k4⟩ | ⟨k1, k3, y, k2, k4⟩
  · exact ⟨by rw [h2, k2], by rw [h3, k3], by rw [h4, k4]⟩
  · exact absurd k1 h1
  · exact absurd h1 k1
  · obtain ⟨rfl, rfl⟩ := fr_one h4 k4
    exact ⟨by rw [h2, k2], by rw [h3, k3], rfl⟩
def Sv.advN (σ : Sv) : Nat → Sv | 0 => σ | i + 1 => (σ.advN i).adv
theorem advN_sl (σ : Sv) (i : Nat) : (σ.advN i).sl = σ.sl ∧ (σ.advN i).turn % 6 = (σ.turn + i) % 6 := by
  induction i with
  | zero => exact ⟨rfl, rfl⟩
  | succ i ih => exact ⟨ih.1, by show ((σ.advN i).turn + 1) % 6 % 6 = _; omega⟩
theorem advN_same (σ : Sv) (i : Nat) : (σ.advN i).W = σ.W ∧ (σ.advN i).H = σ.H ∧ (σ.advN i).cs = σ.cs := by
  induction i with
  | zero => exact ⟨rfl, rfl, rfl⟩
  | succ i ih => exact ih
theorem advN_turn {σ : Sv} (h : σ.turn < 6) (i : Nat) : (σ.advN i).turn = (σ.turn + i) % 6 := by
  induction i with
  | zero => show σ.turn = _; omega
  | succ i ih => show ((σ.advN i).turn + 1) % 6 = _; omega
theorem advN_six {σ : Sv} (h : σ.turn < 6) : σ.advN 6 = σ := by
  have h1 := advN_sl σ 6
  have h2 := advN_same σ 6
  have h3 := advN_turn h 6
  cases σ with
  | mk W H cs sl turn =>
    rcases hA : Sv.advN ⟨W, H, cs, sl, turn⟩ 6 with ⟨a, b, c, d, e⟩
    rw [hA] at h1 h2 h3
    simp only at h1 h2 h3 h
    obtain ⟨rfl, -⟩ := h1
    obtain ⟨rfl, rfl, rfl⟩ := h2
    have : e = turn := by omega
    rw [this]
/-- i idle in a row since σ0, with b left: from there as from here -/
def Idle (σ0 : Sv) (i b : Nat) (σ : Sv) : Prop := σ = σ0.advN i ∧ i ≤ 6 ∧ σ0.turn < 6 ∧ (∀ d, d < i → ¬ liveQ (σ0.sl ((σ0.turn + d) % 6))) ∧ (0 < i → 0 < b)
theorem Idle.fr {σ0 σ : Sv} {i b : Nat} (h : Idle σ0 i b σ) (hl : σ0.live) {σ' : Sv} {k : Nat} (hr : Fr σ b σ' k) : Fr σ0 b σ' k := by
  obtain ⟨rfl, h6, ht, hd, hb⟩ := h
  induction i with
  | zero => exact hr
  | succ i ih =>
    refine ih (Fr.idle _ _ _ _ ?_ (hb (by omega)) ?_ hr) (by omega) (fun d hd' => hd d (by omega)) (fun _ => hb (by omega))
    · obtain ⟨k, k1, k2⟩ := hl; exact ⟨k, k1, by rw [(advN_sl σ0 i).1]; exact k2⟩
    · rw [(advN_sl σ0 i).1, advN_turn ht]; exact hd i (by omega)
theorem Idle.zero {σ : Sv} (ht : σ.turn < 6) (b : Nat) : Idle σ 0 b σ := ⟨rfl, by omega, ht, fun d hd => by omega, fun h => by omega⟩
theorem Idle.next {σ0 σ : Sv} {i b : Nat} (h : Idle σ0 i b σ) (hi : i < 6) (hb : 0 < b) (hn : ¬ liveQ (σ.sl σ.turn)) : Idle σ0 (i + 1) b σ.adv := by
  obtain ⟨rfl, h6, ht, hd, _⟩ := h
  refine ⟨rfl, by omega, ht, fun d hd' => ?_, fun _ => hb⟩
  by_cases q : d < i
  · exact hd d q
  · obtain rfl : d = i := by omega
    rw [(advN_sl σ0 d).1, advN_turn ht] at hn
    exact hn
theorem Idle.six {σ0 σ : Sv} {b : Nat} (h : Idle σ0 6 b σ) : σ = σ0 ∧ ¬ σ0.live := by
  obtain ⟨h1, h6, ht, hd, _⟩ := h
  refine ⟨by rw [h1, advN_six ht], fun ⟨k, k1, k2⟩ => ?_⟩
  refine hd ((k + 6 - σ0.turn) % 6) (by omega) ?_
  have : (σ0.turn + (k + 6 - σ0.turn) % 6) % 6 = k := by omega
  rw [this]
  exact k2
theorem Idle.liveHere {σ0 σ : Sv} {i b : Nat} (h : Idle σ0 i b σ) (ht : σ.turn < 6) (hl : liveQ (σ.sl σ.turn)) : σ0.live := by
  obtain ⟨rfl, h6, h0, hd, _⟩ := h
  exact ⟨_, ht, by rw [(advN_sl σ0 i).1] at hl; exact hl⟩
structure SqOk (n : Nat) (q : Sq) : Prop where
  f : q.f < n
  t : q.t < n
  w : wsErr q.ws = 0
  k : ∀ r, q.kept = some r → r.path.length ≤ 64
structure SvOk (σ : Sv) : Prop where
  g : gridErr σ.W σ.H σ.cs = 0
  u : σ.turn < 6
  q : ∀ i q, i < 6 → σ.sl i = some q → SqOk σ.cs.length q
theorem SvOk.n {σ : Sv} (h : SvOk σ) : 1 ≤ σ.cs.length ∧ σ.cs.length ≤ 64 ∧ (σ.cs.length : Int) = σ.W * σ.H := by
  obtain ⟨h1, h2, h3, h4, h5, _⟩ := gridErr_ok h.g
  refine ⟨?_, ?_, h5⟩
  · have : 1 ≤ σ.W * σ.H := Int.le_trans (by omega : (1 : Int) ≤ 1 * 1) (Int.mul_le_mul h1 h3 (by omega) (by omega))
    omega
  · have : σ.W * σ.H ≤ 8 * 8 := Int.mul_le_mul h2 h4 (by omega) (by omega)
    omega
theorem eds_all {N : Int} : ∀ {es : List Ed}, (∀ e ∈ es, 0 ≤ e.u ∧ e.u < N ∧ 0 ≤ e.v ∧ e.v < N ∧ -10000 ≤ e.c ∧ e.c ≤ 10000) → edsErr N es = 0
  | [], _ => rfl
  | e :: r, h => by
    have h1 := h e (by simp)
    have : edErr N e = 0 := by unfold edErr; rw [if_neg (by omega), if_neg (by omega)]
    unfold edsErr
    rw [if_neg (by simp [this])]
    exact eds_all (fun x hx => h x (by simp [hx]))
theorem low_all : ∀ {es : List Ed}, (∀ e ∈ es, 1 ≤ e.c) → lowCost es = false
  | [], _ => rfl
  | e :: r, h => by
    have h1 := h e (by simp)
    unfold lowCost
    rw [if_neg (by omega)]
    exact low_all (fun x hx => h x (by simp [hx]))
theorem grid_pos {W H : Int} {cs : List Int} (h0 : gridErr W H cs = 0) (h64 : cs.length ≤ 64) (h1 : 1 ≤ cs.length) : posErr (cs.length : Int) (gridNet W H cs cs.length) = 0 := by
  have h := gridNet_in h0
  have hl := gridNet_len W H cs cs.length
  have e1 : netErr (cs.length : Int) (gridNet W H cs cs.length) = 0 := by
    unfold netErr
    rw [if_neg (by omega), if_neg (by omega)]
    exact eds_all (fun e he => by have := h e he; omega)
  unfold posErr
  rw [if_neg (by simp [e1]), low_all (fun e he => (h e he).2.2.2.2.1)]
  rfl
theorem pl_in {N : Int} : ∀ {ps : List Int}, (∀ x ∈ ps, 0 ≤ x ∧ x < N) → plErr N ps = 0
  | [], _ => rfl
  | x :: r, h => by
    have h1 := h x (by simp)
    unfold plErr
    rw [if_neg (by omega)]
    exact pl_in (fun y hy => h y (by simp [hy]))
theorem SvOk.look {σ : Sv} (h : SvOk σ) {f t : Nat} (hf : f < σ.cs.length) (ht : t < σ.cs.length) : lookErr (σ.cs.length : Int) σ.es [(f : Int), (t : Int)] = 0 := by
  have h1 := grid_pos h.g h.n.2.1 h.n.1
  unfold lookErr
  rw [if_neg (by show ¬ posErr _ (gridNet _ _ _ _) ≠ 0; simp [h1])]
  refine pl_in (fun x hx => ?_)
  simp only [List.mem_cons, List.not_mem_nil, or_false] at hx
  rcases hx with rfl | rfl <;> omega
theorem look_in {N : Int} {es : List Ed} {f t : Int} (h : lookErr N es [f, t] = 0) : 0 ≤ f ∧ f < N ∧ 0 ≤ t ∧ t < N := by
  have h1 := (look_ok h).2 f (by simp)
  have h2 := (look_ok h).2 t (by simp)
  omega
theorem hAt_rep (n : Nat) : hAt (List.replicate n 0) = hZ := by
  funext i
  unfold hAt hZ List.getD
  by_cases q : i < n
  · rw [List.getElem?_eq_getElem (by simpa using q)]; simp
  · rw [List.getElem?_eq_none (by simp; omega)]; rfl
theorem li_hZ (n : Nat) : LI n hZ = List.replicate n 0 := by
  apply List.ext_getElem
  · simp [LI]
  · intro i h1 h2
    simp [LI, hZ]
theorem eErr_zero : ∀ {es : List Ed}, (∀ e ∈ es, 1 ≤ e.c) → eErr hZ es = 0
  | [], _ => rfl
  | e :: r, h => by
    have h1 := h e (by simp)
    unfold eErr
    rw [if_neg (by simp only [hZ]; omega)]
    exact eErr_zero (fun x hx => h x (by simp [hx]))
/-- guesses of nothing are right -/
theorem slook_zero (n : Nat) (es : List Ed) (f t : Int) : slookErr (n : Int) es f t (List.replicate n 0) = lookErr (n : Int) es [f, t] := by
  by_cases h : lookErr (n : Int) es [f, t] = 0
  · obtain ⟨m, hm, a1, a2, ⟨a3, a4, a5⟩, t', rfl, a6, a7, a8⟩ := slook_ok h (List.replicate n 0)
    rw [a8, h]
    unfold guessErr
    rw [if_neg (by simp [a7]), if_neg (by simp), if_neg, hAt_rep, if_neg (by simp [hZ]), eErr_zero a5]
    have : hErr (List.replicate n 0) = 0 := hErr_all.2 (fun x hx => by obtain ⟨_, rfl⟩ := List.mem_replicate.1 hx; omega)
    simp [this]
  · unfold slookErr
    rw [if_pos h]
theorem ask_ok {σ : Sv} {f t : Int} {ws : List P2} (h : askErr σ f t ws = 0) : ∃ f' t' : Nat, f = (f' : Int) ∧ t = (t' : Int) ∧ f' < σ.cs.length ∧ t' < σ.cs.length ∧ lookErr (σ.cs.length : Int) σ.es [(f' : Int), (t' : Int)] = 0 ∧ wsErr ws = 0 := by
  unfold askErr at h
  by_cases hl : lookErr (σ.cs.length : Int) σ.es [f, t] = 0
  · rw [if_neg (by simp [hl])] at h
    have := look_in hl
    obtain ⟨f', rfl⟩ := Int.eq_ofNat_of_zero_le (show 0 ≤ f by omega)
    obtain ⟨t', rfl⟩ := Int.eq_ofNat_of_zero_le (show 0 ≤ t by omega)
    exact ⟨f', t', rfl, rfl, by omega, by omega, hl, h⟩
  · rw [if_pos hl] at h
    exact absurd h hl
end Go.Proofs.YtccailcjclbhlaaGreat
/-! A service in memory, the program's and the document's: each owns what it made. No condition. -/
namespace Go.Proofs.YtccailcjclbhlaaGreat
open Go.RowKit
set_option linter.unusedSimpArgs false
set_option linter.unusedVariables false
attribute [local instance] AFr.none
/-- what is written (W) and what is only read from now on (N), thing by thing -/
structure Lay (W N : Nat → Nat → Prop) (w : World) : Prop where
  lt : ∀ i j, W i j ∨ N i j → j < w.heap.size
  sep : ∀ i k j, W i j → W k j → i = k
  ap : ∀ i k j, W i j → ¬ N k j
theorem Lay.size {W N : Nat → Nat → Prop} {w w' : World} (h : Lay W N w) (hz : w.heap.size ≤ w'.heap.size) : Lay W N w' := ⟨fun i j q => Nat.lt_of_lt_of_le (h.lt i j q) hz, h.sep, h.ap⟩
/-- thing i has other blocks now: of its own, or new ones -/
theorem Lay.upd {W N : Nat → Nat → Prop} {w w' : World} (h : Lay W N w) (hz : w.heap.size ≤ w'.heap.size) (i : Nat) {W' N' : Nat → Prop} (hW : ∀ j, W' j → W i j ∨ (w.heap.size ≤ j ∧ j < w'.heap.size)) (hN : ∀ j, N' j → W i j ∨ N i j ∨ (w.heap.size ≤ j ∧ j < w'.heap.size)) (hd : ∀ j, W' j → ¬ N' j) : Lay (upz W i W') (upz N i N') w' := by
  have cW : ∀ k j, upz W i W' k j → (k = i ∧ W' j) ∨ (k ≠ i ∧ W k j) := fun k j q => by
    unfold upz at q
    by_cases e : k = i
    · rw [if_pos e] at q; exact .inl ⟨e, q⟩
    · rw [if_neg e] at q; exact .inr ⟨e, q⟩
  have cN : ∀ k j, upz N i N' k j → (k = i ∧ N' j) ∨ (k ≠ i ∧ N k j) := fun k j q => by
    unfold upz at q
    by_cases e : k = i
    · rw [if_pos e] at q; exact .inl ⟨e, q⟩
    · rw [if_neg e] at q; exact .inr ⟨e, q⟩
  refine ⟨fun k j q => ?_, fun k l j q r => ?_, fun k l j q r => ?_⟩
  · rcases q with q | q
    · rcases cW k j q with ⟨_, q⟩ | ⟨_, q⟩
      · rcases hW j q with q | q
        · exact Nat.lt_of_lt_of_le (h.lt i j (.inl q)) hz
        · exact q.2
      · exact Nat.lt_of_lt_of_le (h.lt k j (.inl q)) hz
    · rcases cN k j q with ⟨_, q⟩ | ⟨_, q⟩
      · rcases hN j q with q | q | q
        · exact Nat.lt_of_lt_of_le (h.lt i j (.inl q)) hz
        · exact Nat.lt_of_lt_of_le (h.lt i j (.inr q)) hz
        · exact q.2
      · exact Nat.lt_of_lt_of_le (h.lt k j (.inr q)) hz
  · rcases cW k j q with ⟨e1, q⟩ | ⟨e1, q⟩ <;> rcases cW l j r with ⟨e2, r⟩ | ⟨e2, r⟩
    · rw [e1, e2]
    · rcases hW j q with q | q
      · exact absurd (h.sep l i j r q) e2
      · exact absurd (h.lt l j (.inl r)) (by omega)
    · rcases hW j r with r | r
      · exact absurd (h.sep k i j q r) e1
      · exact absurd (h.lt k j (.inl q)) (by omega)
    · exact h.sep k l j q r
  · rcases cW k j q with ⟨e1, q⟩ | ⟨e1, q⟩ <;> rcases cN l j r with ⟨e2, r⟩ | ⟨e2, r⟩
    · exact hd j q r
    · rcases hW j q with q | q
      · exact h.ap i l j q r
      · exact absurd (h.lt l j (.inr r)) (by omega)
    · rcases hN j r with r | r | r
      · exact e1 (h.sep k i j q r)
      · exact h.ap k i j q r
      · exact absurd (h.lt k j (.inl q)) (by omega)
    · exact h.ap k l j q r
theorem Lay.other {W N : Nat → Nat → Prop} {w : World} (h : Lay W N w) {i k : Nat} (hne : k ≠ i) : ∀ j, W k j ∨ N k j → ¬ W i j := fun j q r => by
  rcases q with q | q
  · exact hne (h.sep k i j q r)
  · exact h.ap i k j r q
def rv0 : RV := ⟨0, 0, none, 0, 0, 0, 0⟩
/-- what was told last on another ground -/
def KeptAt (w : World) (rv : RV) (k : Option RD) : Prop := match k with | none => rv = rv0 | some r => RoundAt w 0 rv r
theorem RoundAt.keepB {T : Nat → Prop} {w w' : World} {b : Nat} {rv : RV} {r : RD} (h : RoundAt w b rv r) (kp : Keep T w w') (hT : ∀ j, (Value.slice rv.pa rv.pm rv.pc).ownBlock = some j → ¬ T j) : RoundAt w' b rv r := by
  obtain ⟨h1, h2, h3, h4, h5, h6⟩ := h
  exact ⟨h1, h2, h3, h4, h5, kp.own h6 hT⟩
theorem KeptAt.keep {T : Nat → Prop} {w w' : World} {rv : RV} {k : Option RD} (h : KeptAt w rv k) (kp : Keep T w w') (hT : ∀ j, (Value.slice rv.pa rv.pm rv.pc).ownBlock = some j → ¬ T j) : KeptAt w' rv k := by
  cases k with
  | none => exact h
  | some r => exact RoundAt.keepB h kp hT
/-- a request of the program at xb: sb its search -/
structure PQc (es : List Ed) (n : Nat) (q : Sq) (xb sb cw : Nat) (aw : Option Addr) (rv : RV) (A C W N : Nat → Prop) (w : World) : Prop where
  x0 : w.cell? ⟨xb, 0, none⟩ = some (.pointer (some ⟨sb, 0, none⟩))
  x1 : w.cell? ⟨xb, 1, none⟩ = some (.int .i64 (q.f : Int))
  x2 : w.cell? ⟨xb, 2, none⟩ = some (.int .i64 (q.t : Int))
  x3 : w.cell? ⟨xb, 3, none⟩ = some (.slice aw q.ws.length cw)
  x4 : w.cell? ⟨xb, 4, none⟩ = some (.int .i64 rv.na)
  x5 : w.cell? ⟨xb, 5, none⟩ = some (.int .i64 rv.nb)
  x6 : w.cell? ⟨xb, 6, none⟩ = some (.slice rv.pa rv.pm rv.pc)
  x7 : w.cell? ⟨xb, 7, none⟩ = some (.int .i64 rv.rc)
  x8 : w.cell? ⟨xb, 8, none⟩ = some (.int .i64 rv.dn)
  x9 : w.cell? ⟨xb, 9, none⟩ = some (.bool q.kept.isSome)
  fz : ∀ o, w.frozen? ⟨xb, o, none⟩ = false
  obj : AObj n q.t es hZ q.ws q.s sb A C w
  wr : Row encP 2 w w.heap.size aw q.ws
  kp : KeptAt w rv q.kept
  wx : W xb
  ax : ¬ A xb
  aW : ∀ j, A j → W j
  cN : ∀ j, C j → N j
  wN : ∀ j o, aw = some ⟨j, o, none⟩ → N j
  pN : ∀ j, (Value.slice rv.pa rv.pm rv.pc).ownBlock = some j → N j
theorem PQc.keep {es : List Ed} {n : Nat} {q : Sq} {xb sb cw : Nat} {aw : Option Addr} {rv : RV} {A C W N T : Nat → Prop} {w w' : World} (h : PQc es n q xb sb cw aw rv A C W N w) (kp : Keep T w w') (hT : ∀ j, W j ∨ N j → ¬ T j) : PQc es n q xb sb cw aw rv A C W N w' := by
  have hx : ¬ T xb := hT _ (.inl h.wx)
  exact ⟨kp.cu h.x0 hx, kp.cu h.x1 hx, kp.cu h.x2 hx, kp.cu h.x3 hx, kp.cu h.x4 hx, kp.cu h.x5 hx, kp.cu h.x6 hx, kp.cu h.x7 hx, kp.cu h.x8 hx, kp.cu h.x9 hx,
    fun o => (kp.frozen (p := ⟨xb, o, none⟩) (show xb < _ from cell_lt h.x0) hx).trans (h.fz o),
    h.obj.keep kp (fun j q => hT j (q.elim (fun a => .inl (h.aW j a)) (fun c => .inr (h.cN j c)))), (row_keep h.wr kp (fun b o e => hT b (.inr (h.wN b o e)))).mono kp.size, h.kp.keep kp (fun j e => hT j (.inr (h.pN j e))), h.wx, h.ax, h.aW, h.cN, h.wN, h.pN⟩
def PQ (es : List Ed) (n : Nat) (q : Sq) (xb : Nat) (W N : Nat → Prop) (w : World) : Prop := ∃ sb cw aw rv A C, PQc es n q xb sb cw aw rv A C W N w
def PSl (es : List Ed) (n : Nat) (oq : Option Sq) (ox : Option Nat) (W N : Nat → Prop) (w : World) : Prop :=
  (oq = none ∧ ox = none) ∨ ∃ q x, oq = some q ∧ ox = some x ∧ PQ es n q x W N w
theorem PSl.keep {es : List Ed} {n : Nat} {oq : Option Sq} {ox : Option Nat} {W N T : Nat → Prop} {w w' : World} (h : PSl es n oq ox W N w) (kp : Keep T w w') (hT : ∀ j, W j ∨ N j → ¬ T j) : PSl es n oq ox W N w' := by
  rcases h with h | ⟨q, x, h1, h2, sb, cw, aw, rv, A, C, h3⟩
  · exact .inl h
  · exact .inr ⟨q, x, h1, h2, sb, cw, aw, rv, A, C, h3.keep kp hT⟩
def xP (x : Option Nat) : Value := .pointer (x.map fun b => ⟨b, 0, none⟩)
/-- the program's service at svb, each request on edges of its own -/
structure PSx (σ : Sv) (ef : Nat → List Ed) (svb : Nat) (ga : Option Addr) (gc : Nat) (xs : Nat → Option Nat) (W N : Nat → Nat → Prop) (w : World) : Prop where
  lay : Lay W N w
  c0 : w.cell? ⟨svb, 0, none⟩ = some (.int .i64 σ.W)
  c1 : w.cell? ⟨svb, 1, none⟩ = some (.int .i64 σ.H)
  c2 : w.cell? ⟨svb, 2, none⟩ = some (.slice ga σ.cs.length gc)
  cx : ∀ i, i < 6 → w.cell? ⟨svb, 3 + i, none⟩ = some (xP (xs i))
  c9 : w.cell? ⟨svb, 9, none⟩ = some (.int .i64 (σ.turn : Int))
  fz : ∀ o, w.frozen? ⟨svb, o, none⟩ = false
  own : W 6 svb
  grd : Own encI 1 3 w 0 (.slice ga σ.cs.length gc) σ.cs
  gown : ∀ j, (Value.slice ga σ.cs.length gc).ownBlock = some j → W 7 j
  sl : ∀ i, i < 6 → PSl (ef i) σ.cs.length (σ.sl i) (xs i) (W i) (N i) w
section
variable {σ : Sv} {ef : Nat → List Ed} {svb gc : Nat} {ga : Option Addr} {xs : Nat → Option Nat} {W N : Nat → Nat → Prop} {T : Nat → Prop} {w w' : World}
theorem PSx.keep (h : PSx σ ef svb ga gc xs W N w) (kp : Keep T w w') (hT : ∀ i j, W i j ∨ N i j → ¬ T j) : PSx σ ef svb ga gc xs W N w' := by
  have hx : ¬ T svb := hT 6 _ (.inl h.own)
  exact ⟨h.lay.size kp.size, kp.cu h.c0 hx, kp.cu h.c1 hx, kp.cu h.c2 hx, fun i hi => kp.cu (h.cx i hi) hx, kp.cu h.c9 hx, fun o => (kp.frozen (p := ⟨svb, o, none⟩) (show svb < _ from cell_lt h.c0) hx).trans (h.fz o), h.own,
    kp.own h.grd (fun j e => hT 7 j (.inl (h.gown j e))), h.gown, fun i hi => (h.sl i hi).keep kp (hT i)⟩
theorem PSx.stays (h : PSx σ ef svb ga gc xs W N w) (hb : Below w.heap.size w w') : PSx σ ef svb ga gc xs W N w' := h.keep (Keep.new (S := fun _ => False) hb) (fun _ _ _ e => e)
theorem PSx.row (h : PSx σ ef svb ga gc xs W N w) : Row encI 1 w w.heap.size ga σ.cs := by
  obtain ⟨a, c, e, hr, _⟩ := h.grd.row lenI
  cases e
  exact hr
/-- request k is another now -/
theorem PSx.slot (h : PSx σ ef svb ga gc xs W N w) {k : Nat} (hk : k < 6) (kp : Keep T w w') (hT : ∀ j, T j → j = svb ∨ W k j) (hc : ∀ o, o ≠ 3 + k → ∀ v, w.cell? ⟨svb, o, none⟩ = some v → w'.cell? ⟨svb, o, none⟩ = some v) {x : Option Nat} (hck : w'.cell? ⟨svb, 3 + k, none⟩ = some (xP x)) (hf : ∀ o, w'.frozen? ⟨svb, o, none⟩ = false) (oq : Option Sq) (es : List Ed) {W' N' : Nat → Prop} (hW : ∀ j, W' j → W k j ∨ (w.heap.size ≤ j ∧ j < w'.heap.size)) (hN : ∀ j, N' j → W k j ∨ N k j ∨ (w.heap.size ≤ j ∧ j < w'.heap.size)) (hd : ∀ j, W' j → ¬ N' j) (hs : PSl es σ.cs.length oq x W' N' w') :
    PSx { σ with sl := upz σ.sl k oq } (upz ef k es) svb ga gc (upz xs k x) (upz W k W') (upz N k N') w' := by
  have h6 : (6 : Nat) ≠ k := by omega
  have h7 : (7 : Nat) ≠ k := by omega
  refine ⟨h.lay.upd kp.size k hW hN hd, hc 0 (by omega) _ h.c0, hc 1 (by omega) _ h.c1, hc 2 (by omega) _ h.c2, fun i hi => ?_, hc 9 (by omega) _ h.c9, hf, by rw [upz_other _ _ h6]; exact h.own, kp.own h.grd (fun j e ht => ?_), fun j e => by rw [upz_other _ _ h7]; exact h.gown j e, fun i hi => ?_⟩
  · by_cases e : i = k
    · subst e; rw [upz_same]; exact hck
    · rw [upz_other _ _ e]; exact hc _ (by omega) _ (h.cx i hi)
  · have h1 := h.gown j e
    rcases hT j ht with rfl | ht
    · exact absurd (h.lay.sep 6 7 _ h.own h1) (by omega)
    · exact absurd (h.lay.sep k 7 _ ht h1) (by omega)
  · by_cases e : i = k
    · subst e
      simp only [upz_same]
      exact hs
    · simp only [upz_other _ _ e]
      refine (h.sl i hi).keep kp (fun j q ht => ?_)
      rcases hT j ht with rfl | ht
      · exact h.lay.other (i := 6) (k := i) (by omega) _ q h.own
      · exact h.lay.other e j q ht
/-- its turn is another now -/
theorem PSx.turned (h : PSx σ ef svb ga gc xs W N w) (u : Nat) : PSx { σ with turn := u } ef svb ga gc xs W N (w.setCell ⟨svb, 9, none⟩ (.int .i64 (u : Int))) := by
  have kp := (Keep.refl (fun j => j = svb) w).setCell (p := ⟨svb, 9, none⟩) (.inl rfl) (.int .i64 (u : Int))
  refine ⟨h.lay.size kp.size, cu_set_off h.c0 (by omega), cu_set_off h.c1 (by omega), cu_set_off h.c2 (by omega), fun i hi => cu_set_off (h.cx i hi) (by omega), World.cell?_setCell_same' _ _ _ (by rw [h.c9]; rfl), fun o => fu_set (h.fz o), h.own, kp.own h.grd (fun j e q => ?_), h.gown, fun i hi => (h.sl i hi).keep kp (fun j q e => ?_)⟩
  · subst q; exact absurd (h.lay.sep 6 7 _ h.own (h.gown _ e)) (by omega)
  · subst e; exact h.lay.other (i := 6) (k := i) (by omega) _ q h.own
/-- a cell of its ground is another now -/
theorem PSx.ground (h : PSx σ ef svb ga gc xs W N w) (a : Nat) (ha : a < σ.cs.length) (g : Int) : ∃ b, ga = some ⟨b, 0, none⟩ ∧ W 7 b ∧ w.cell? ⟨b, a, none⟩ = some (.int .i64 σ.cs[a]) ∧ (∀ o, w.frozen? ⟨b, o, none⟩ = false) ∧ PSx { σ with cs := σ.cs.set a g } ef svb ga gc xs W N (w.setCell ⟨b, a, none⟩ (.int .i64 g)) := by
  rcases h.grd.form with ⟨h1, h2⟩ | ⟨b, cap, h1, h2, h3, h4⟩
  · rw [h2] at ha; simp at ha
  · simp only [Value.slice.injEq] at h1
    obtain ⟨rfl, -, rfl⟩ := h1
    have hw : W 7 b := h.gown b rfl
    have hne : b ≠ svb := fun e => by rw [e] at hw; exact absurd (h.lay.sep 6 7 _ h.own hw) (by omega)
    have kp := (Keep.refl (fun j => j = b) w).setCell (p := ⟨b, a, none⟩) (.inl rfl) (.int .i64 g)
    have hx : ¬ (svb = b) := fun e => hne e.symm
    have hl : (σ.cs.set a g).length = σ.cs.length := List.length_set
    refine ⟨b, rfl, hw, h.grd.getI a ha, fun o => h.grd.free o, ⟨h.lay.size kp.size, kp.cu h.c0 hx, kp.cu h.c1 hx, by rw [hl]; exact kp.cu h.c2 hx, fun i hi => kp.cu (h.cx i hi) hx, kp.cu h.c9 hx, fun o => fu_set (h.fz o), h.own, by rw [hl]; exact h.grd.putI a ha g, by rw [hl]; exact h.gown, fun i hi => by rw [hl]; exact (h.sl i hi).keep kp (fun j q e => by subst e; exact h.lay.other (i := 7) (k := i) (by omega) _ q hw)⟩⟩
end
/-- the program's service: P what is its own -/
def PSv (σ : Sv) (svb : Nat) (P : Nat → Prop) (w : World) : Prop := SvOk σ ∧ (∀ j, P j → j < w.heap.size) ∧ ∃ ga gc xs W N, PSx σ (fun _ => σ.es) svb ga gc xs W N w ∧ ∀ i j, W i j ∨ N i j → P j
theorem PSv.keep {σ : Sv} {svb : Nat} {P T : Nat → Prop} {w w' : World} (h : PSv σ svb P w) (kp : Keep T w w') (hT : ∀ j, P j → ¬ T j) : PSv σ svb P w' := by
  obtain ⟨h1, h2, ga, gc, xs, W, N, h3, h4⟩ := h
  exact ⟨h1, fun j q => Nat.lt_of_lt_of_le (h2 j q) kp.size, ga, gc, xs, W, N, h3.keep kp (fun i j q => hT j (h4 i j q)), h4⟩
theorem PSv.stays {σ : Sv} {svb : Nat} {P : Nat → Prop} {w w' : World} (h : PSv σ svb P w) (hb : Below w.heap.size w w') : PSv σ svb P w' := h.keep (Keep.new (S := fun _ => False) hb) (fun _ _ e => e)
/-- a request as the document holds it -/
structure AV where
  is : Bool
  f : Int
  t : Int
  aw : Option Addr
  am : Nat
  ac : Nat
  p : Option Addr
  ka : Option Addr
  km : Nat
  kc : Nat
def encA (r : AV) : List Value := [.bool r.is, .int .i64 r.f, .int .i64 r.t, .slice r.aw r.am r.ac, .pointer r.p, .slice r.ka r.km r.kc]
def av0 : AV := ⟨false, 0, 0, none, 0, 0, none, none, 0, 0⟩
/-- the row of the one told last on another ground -/
def KRow (w : World) (N : Nat → Prop) (ka : Option Addr) (km : Nat) (k : Option RD) : Prop := match k with
  | none => km = 0
  | some r => km = 1 ∧ ∃ kb ko rv, ka = some ⟨kb, ko, none⟩ ∧ (∀ j u, (encR rv)[j]? = some u → w.cell? ⟨kb, ko + j, none⟩ = some u) ∧ RoundAt w 0 rv r ∧ N kb ∧ ∀ j, (Value.slice rv.pa rv.pm rv.pc).ownBlock = some j → N j
theorem KRow.keep {w w' : World} {N T : Nat → Prop} {ka : Option Addr} {km : Nat} {k : Option RD} (h : KRow w N ka km k) (kp : Keep T w w') (hT : ∀ j, N j → ¬ T j) : KRow w' N ka km k := by
  cases k with
  | none => exact h
  | some r =>
    obtain ⟨h1, kb, ko, rv, h2, h3, h4, h5, h6⟩ := h
    exact ⟨h1, kb, ko, rv, h2, fun j u e => kp.cu (h3 j u e) (hT kb h5), h4.keepB kp (fun j e => hT j (h6 j e)), h5, h6⟩
/-- a request of the document: rb its search -/
structure RQc (es : List Ed) (n : Nat) (q : Sq) (r : AV) (rb : Nat) (R C W N : Nat → Prop) (w : World) : Prop where
  a0 : r.is = true
  a1 : r.f = (q.f : Int)
  a2 : r.t = (q.t : Int)
  a3 : r.am = q.ws.length
  a4 : r.p = some ⟨rb, 0, none⟩
  obj : RObj n q.t es hZ q.ws q.s rb R C w
  wr : Row encP 2 w w.heap.size r.aw q.ws
  kp : KRow w N r.ka r.km q.kept
  rW : ∀ j, R j → W j
  cN : ∀ j, C j → N j
  wN : ∀ j o, r.aw = some ⟨j, o, none⟩ → N j
theorem RQc.keep {es : List Ed} {n : Nat} {q : Sq} {r : AV} {rb : Nat} {R C W N T : Nat → Prop} {w w' : World} (h : RQc es n q r rb R C W N w) (kp : Keep T w w') (hT : ∀ j, W j ∨ N j → ¬ T j) : RQc es n q r rb R C W N w' :=
  ⟨h.a0, h.a1, h.a2, h.a3, h.a4, h.obj.keep kp (fun j q => hT j (q.elim (fun a => .inl (h.rW j a)) (fun c => .inr (h.cN j c)))), (row_keep h.wr kp (fun b o e => hT b (.inr (h.wN b o e)))).mono kp.size, h.kp.keep kp (fun j e => hT j (.inr e)), h.rW, h.cN, h.wN⟩
def RQ (es : List Ed) (n : Nat) (q : Sq) (r : AV) (W N : Nat → Prop) (w : World) : Prop := ∃ rb R C, RQc es n q r rb R C W N w
def RSl (es : List Ed) (n : Nat) (oq : Option Sq) (r : AV) (W N : Nat → Prop) (w : World) : Prop := (oq = none ∧ r = av0) ∨ ∃ q, oq = some q ∧ RQ es n q r W N w
theorem RSl.keep {es : List Ed} {n : Nat} {oq : Option Sq} {r : AV} {W N T : Nat → Prop} {w w' : World} (h : RSl es n oq r W N w) (kp : Keep T w w') (hT : ∀ j, W j ∨ N j → ¬ T j) : RSl es n oq r W N w' := by
  rcases h with h | ⟨q, h1, rb, R, C, h3⟩
  · exact .inl h
  · exact .inr ⟨q, h1, rb, R, C, h3.keep kp hT⟩
/-- the document's service at rvb, each request on edges of its own -/
structure RSx (σ : Sv) (ef : Nat → List Ed) (rvb : Nat) (ga : Option Addr) (gc : Nat) (xs : Nat → AV) (W N : Nat → Nat → Prop) (w : World) : Prop where
  lay : Lay W N w
  c0 : w.cell? ⟨rvb, 0, none⟩ = some (.int .i64 σ.W)
  c1 : w.cell? ⟨rvb, 1, none⟩ = some (.int .i64 σ.H)
  c2 : w.cell? ⟨rvb, 2, none⟩ = some (.slice ga σ.cs.length gc)
  cx : ∀ i, i < 6 → ∀ k u, (encA (xs i))[k]? = some u → w.cell? ⟨rvb, 3 + i * 6 + k, none⟩ = some u
  c9 : w.cell? ⟨rvb, 39, none⟩ = some (.int .i64 (σ.turn : Int))
  fz : ∀ o, w.frozen? ⟨rvb, o, none⟩ = false
  own : W 6 rvb
  grd : Own encI 1 3 w 0 (.slice ga σ.cs.length gc) σ.cs
  gown : ∀ j, (Value.slice ga σ.cs.length gc).ownBlock = some j → W 7 j
  sl : ∀ i, i < 6 → RSl (ef i) σ.cs.length (σ.sl i) (xs i) (W i) (N i) w
section
variable {σ : Sv} {ef : Nat → List Ed} {rvb gc : Nat} {ga : Option Addr} {xs : Nat → AV} {W N : Nat → Nat → Prop} {T : Nat → Prop} {w w' : World}
theorem RSx.keep (h : RSx σ ef rvb ga gc xs W N w) (kp : Keep T w w') (hT : ∀ i j, W i j ∨ N i j → ¬ T j) : RSx σ ef rvb ga gc xs W N w' := by
  have hx : ¬ T rvb := hT 6 _ (.inl h.own)
  exact ⟨h.lay.size kp.size, kp.cu h.c0 hx, kp.cu h.c1 hx, kp.cu h.c2 hx, fun i hi k u e => kp.cu (h.cx i hi k u e) hx, kp.cu h.c9 hx, fun o => (kp.frozen (p := ⟨rvb, o, none⟩) (show rvb < _ from cell_lt h.c0) hx).trans (h.fz o), h.own,
    kp.own h.grd (fun j e => hT 7 j (.inl (h.gown j e))), h.gown, fun i hi => (h.sl i hi).keep kp (hT i)⟩
theorem RSx.stays (h : RSx σ ef rvb ga gc xs W N w) (hb : Below w.heap.size w w') : RSx σ ef rvb ga gc xs W N w' := h.keep (Keep.new (S := fun _ => False) hb) (fun _ _ _ e => e)
theorem RSx.row (h : RSx σ ef rvb ga gc xs W N w) : Row encI 1 w w.heap.size ga σ.cs := by
  obtain ⟨a, c, e, hr, _⟩ := h.grd.row lenI
  cases e
  exact hr
/-- request k is another now -/
theorem RSx.slot (h : RSx σ ef rvb ga gc xs W N w) {k : Nat} (hk : k < 6) (kp : Keep T w w') (hT : ∀ j, T j → j = rvb ∨ W k j) (hc : ∀ o, (o < 3 + k * 6 ∨ 9 + k * 6 ≤ o) → ∀ v, w.cell? ⟨rvb, o, none⟩ = some v → w'.cell? ⟨rvb, o, none⟩ = some v) {x : AV} (hck : ∀ j u, (encA x)[j]? = some u → w'.cell? ⟨rvb, 3 + k * 6 + j, none⟩ = some u) (hf : ∀ o, w'.frozen? ⟨rvb, o, none⟩ = false) (oq : Option Sq) (es : List Ed) {W' N' : Nat → Prop} (hW : ∀ j, W' j → W k j ∨ (w.heap.size ≤ j ∧ j < w'.heap.size)) (hN : ∀ j, N' j → W k j ∨ N k j ∨ (w.heap.size ≤ j ∧ j < w'.heap.size)) (hd : ∀ j, W' j → ¬ N' j) (hs : RSl es σ.cs.length oq x W' N' w') :
    RSx { σ with sl := upz σ.sl k oq } (upz ef k es) rvb ga gc (upz xs k x) (upz W k W') (upz N k N') w' := by
  have h6 : (6 : Nat) ≠ k := by omega
  have h7 : (7 : Nat) ≠ k := by omega
  refine ⟨h.lay.upd kp.size k hW hN hd, hc 0 (by omega) _ h.c0, hc 1 (by omega) _ h.c1, hc 2 (by omega) _ h.c2, fun i hi j u hu => ?_, hc 39 (by omega) _ h.c9, hf, by rw [upz_other _ _ h6]; exact h.own, kp.own h.grd (fun j e ht => ?_), fun j e => by rw [upz_other _ _ h7]; exact h.gown j e, fun i hi => ?_⟩
  · have hj : j < 6 := by have := (List.getElem?_eq_some_iff.1 hu).1; simpa [encA] using this
    by_cases e : i = k
    · subst e; rw [upz_same] at hu; exact hck j u hu
    · rw [upz_other _ _ e] at hu; exact hc _ (by omega) _ (h.cx i hi j u hu)
  · have h1 := h.gown j e
    rcases hT j ht with rfl | ht
    · exact absurd (h.lay.sep 6 7 _ h.own h1) (by omega)
    · exact absurd (h.lay.sep k 7 _ ht h1) (by omega)
  · by_cases e : i = k
    · subst e
      simp only [upz_same]
      exact hs
    · simp only [upz_other _ _ e]
      refine (h.sl i hi).keep kp (fun j q ht => ?_)
      rcases hT j ht with rfl | ht
      · exact h.lay.other (i := 6) (k := i) (by omega) _ q h.own
      · exact h.lay.other e j q ht
/-- its turn is another now -/
theorem RSx.turned (h : RSx σ ef rvb ga gc xs W N w) (u : Nat) : RSx { σ with turn := u } ef rvb ga gc xs W N (w.setCell ⟨rvb, 39, none⟩ (.int .i64 (u : Int))) := by
  have kp := (Keep.refl (fun j => j = rvb) w).setCell (p := ⟨rvb, 39, none⟩) (.inl rfl) (.int .i64 (u : Int))
  refine ⟨h.lay.size kp.size, cu_set_off h.c0 (by omega), cu_set_off h.c1 (by omega), cu_set_off h.c2 (by omega), fun i hi j u' hu => cu_set_off (h.cx i hi j u' hu) (by have := (List.getElem?_eq_some_iff.1 hu).1; simp [encA] at this; omega), World.cell?_setCell_same' _ _ _ (by rw [h.c9]; rfl), fun o => fu_set (h.fz o), h.own, kp.own h.grd (fun j e q => ?_), h.gown, fun i hi => (h.sl i hi).keep kp (fun j q e => ?_)⟩
  · subst q; exact absurd (h.lay.sep 6 7 _ h.own (h.gown _ e)) (by omega)
  · subst e; exact h.lay.other (i := 6) (k := i) (by omega) _ q h.own
/-- a cell of its ground is another now -/
theorem RSx.ground (h : RSx σ ef rvb ga gc xs W N w) (a : Nat) (ha : a < σ.cs.length) (g : Int) : ∃ b, ga = some ⟨b, 0, none⟩ ∧ W 7 b ∧ w.cell? ⟨b, a, none⟩ = some (.int .i64 σ.cs[a]) ∧ (∀ o, w.frozen? ⟨b, o, none⟩ = false) ∧ RSx { σ with cs := σ.cs.set a g } ef rvb ga gc xs W N (w.setCell ⟨b, a, none⟩ (.int .i64 g)) := by
  rcases h.grd.form with ⟨h1, h2⟩ | ⟨b, cap, h1, h2, h3, h4⟩
  · rw [h2] at ha; simp at ha
  · simp only [Value.slice.injEq] at h1
    obtain ⟨rfl, -, rfl⟩ := h1
    have hw : W 7 b := h.gown b rfl
    have hne : b ≠ rvb := fun e => by rw [e] at hw; exact absurd (h.lay.sep 6 7 _ h.own hw) (by omega)
    have kp := (Keep.refl (fun j => j = b) w).setCell (p := ⟨b, a, none⟩) (.inl rfl) (.int .i64 g)
    have hx : ¬ (rvb = b) := fun e => hne e.symm
    have hl : (σ.cs.set a g).length = σ.cs.length := List.length_set
    refine ⟨b, rfl, hw, h.grd.getI a ha, fun o => h.grd.free o, ⟨h.lay.size kp.size, kp.cu h.c0 hx, kp.cu h.c1 hx, by rw [hl]; exact kp.cu h.c2 hx, fun i hi j u hu => kp.cu (h.cx i hi j u hu) hx, kp.cu h.c9 hx, fun o => fu_set (h.fz o), h.own, by rw [hl]; exact h.grd.putI a ha g, by rw [hl]; exact h.gown, fun i hi => by rw [hl]; exact (h.sl i hi).keep kp (fun j q e => by subst e; exact h.lay.other (i := 7) (k := i) (by omega) _ q hw)⟩⟩
end
/-- the document's service: P what is its own -/
def RSv (σ : Sv) (rvb : Nat) (P : Nat → Prop) (w : World) : Prop := SvOk σ ∧ (∀ j, P j → j < w.heap.size) ∧ ∃ ga gc xs W N, RSx σ (fun _ => σ.es) rvb ga gc xs W N w ∧ ∀ i j, W i j ∨ N i j → P j
theorem RSv.keep {σ : Sv} {rvb : Nat} {P T : Nat → Prop} {w w' : World} (h : RSv σ rvb P w) (kp : Keep T w w') (hT : ∀ j, P j → ¬ T j) : RSv σ rvb P w' := by
  obtain ⟨h1, h2, ga, gc, xs, W, N, h3, h4⟩ := h
  exact ⟨h1, fun j q => Nat.lt_of_lt_of_le (h2 j q) kp.size, ga, gc, xs, W, N, h3.keep kp (fun i j q => hT j (h4 i j q)), h4⟩
theorem RSv.stays {σ : Sv} {rvb : Nat} {P : Nat → Prop} {w w' : World} (h : RSv σ rvb P w) (hb : Below w.heap.size w w') : RSv σ rvb P w' := h.keep (Keep.new (S := fun _ => False) hb) (fun _ _ e => e)
/-- the rounds of a search of the document are its own -/
theorem RObj.toldOwn {n tg : Nat} {es : List Ed} {h : Nat → Int} {ws : List P2} {s : AS} {rb : Nat} {R C : Nat → Prop} {w : World} (hO : RObj n tg es h ws s rb R C w) : R rb ∧ ∃ ar aw rc wc ros, w.cell? ⟨rb, 5, none⟩ = some (.slice aw ws.length wc) ∧ w.cell? ⟨rb, 12, none⟩ = some (.slice ar s.told.length rc) ∧ Own encR 5 60 w 0 (.slice ar s.told.length rc) ros ∧ Told w 0 ros s.told ∧ (∀ j, (Value.slice ar s.told.length rc).ownBlock = some j → R j) ∧ ∀ j, Pathb ros j → R j := by
  obtain ⟨mb, pb, hc, wk, ec, ha, aw, ae, fr, w1, g1, g4, g5, g5b, g6, g7, g9, g10⟩ := hO
  obtain ⟨nm, a0, k0, c0, a1, k1, c1, a2, k2, c2, sl, ar, t, rc, ros, hX, hA, ht, hr⟩ := g6
  subst ht
  refine ⟨hA rb (.inl (.inl rfl)), ar, aw, rc, wk, ros, hX.c5, hX.c12, hX.rnds.base_le (Nat.zero_le _), ⟨hX.told.1, fun i hi => ?_⟩, fun j hj => hA j (.inr (.inr (.inl hj))), fun j hj => hA j (.inr (.inr (.inr hj)))⟩
  obtain ⟨r, h1, h2, h3, h4, h5, h6, h7⟩ := hX.told.2 i hi
  exact ⟨r, h1, h2, h3, h4, h5, h6, h7.base_le (Nat.zero_le _)⟩
end Go.Proofs.YtccailcjclbhlaaGreat
