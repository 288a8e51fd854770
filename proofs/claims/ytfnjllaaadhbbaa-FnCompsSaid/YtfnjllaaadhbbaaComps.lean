/- What belongs together in a graph: the plain law. -/
import Derived.Test.YtfnjllaaadhbbaaGraph
namespace Go.Proofs.Ytfnjllaaadhbbaa
open Go.RowKit
set_option linter.unusedVariables false

theorem warsh_through (R : Rel) (k : Nat) : ∀ m, m < k → ∀ i j, warsh R k i m = true → warsh R k m j = true → warsh R k i j = true := by
  induction k with
  | zero => intro m hm; omega
  | succ k ih =>
    intro m hm i j h1 h2
    simp only [warsh, stepR, Bool.or_eq_true, Bool.and_eq_true] at h1 h2 ⊢
    by_cases e : m = k
    · subst e
      have a1 : warsh R m i m = true := by rcases h1 with h | ⟨h, _⟩ <;> exact h
      have a2 : warsh R m m j = true := by rcases h2 with h | ⟨_, h⟩ <;> exact h
      exact .inr ⟨a1, a2⟩
    · have hmk : m < k := by omega
      rcases h1 with h1 | ⟨h1, h1'⟩
      · rcases h2 with h2 | ⟨h2, h2'⟩
        · exact .inl (ih m hmk i j h1 h2)
        · exact .inr ⟨ih m hmk i k h1 h2, h2'⟩
      · rcases h2 with h2 | ⟨h2, h2'⟩
        · exact .inr ⟨h1, ih m hmk k j h1' h2⟩
        · exact .inr ⟨h1, h2'⟩
/-- what leads on leads on, below n -/
structure Leads (n : Nat) (W : Rel) : Prop where
  trans : ∀ i m j, W i m = true → W m j = true → W i j = true
  inR : InR n W
theorem leads_warsh {n : Nat} {ars : List Arc2} (h : ars.all (arcOk (n : Int)) = true) : Leads n (warsh (arcR ars) n) := by
  have hi : InR n (warsh (arcR ars) n) := by have := (inR_arcs h).warsh n; rwa [Int.toNat_natCast] at this
  exact ⟨fun i m j h1 h2 => warsh_through _ _ m (hi _ _ h1).2 i j h1 h2, hi⟩
def inPart (W : Rel) (i j : Nat) : Bool := decide (j = i) || (W i j && W j i)
def partL (n : Nat) (W : Rel) (i : Nat) : List Nat := (List.range n).filter (inPart W i)
def readyJ (W : Rel) (T : Nat → Bool) (i j : Nat) : Bool := !W i j || W j i || T j
def readyB (n : Nat) (W : Rel) (T : Nat → Bool) (i : Nat) : Bool := !T i && (List.range n).all (readyJ W T i)
def toldN (W : Rel) (T : Nat → Bool) (i : Nat) : Nat → Bool := fun j => T j || inPart W i j
def nextI (n : Nat) (W : Rel) (T : Nat → Bool) : Option Nat := (List.range n).find? (readyB n W T)
def compsL (n : Nat) (W : Rel) : Nat → (Nat → Bool) → List (List Nat)
  | 0, _ => []
  | f + 1, T => match nextI n W T with
    | none => []
    | some i => partL n W i :: compsL n W f (toldN W T i)
theorem compsL_none {n : Nat} {W : Rel} {T : Nat → Bool} (f : Nat) (h : nextI n W T = none) : compsL n W f T = [] := by
  cases f with
  | zero => rfl
  | succ f => rw [compsL, h]
theorem compsL_some {n : Nat} {W : Rel} {T : Nat → Bool} {i : Nat} (f : Nat) (h : nextI n W T = some i) : compsL n W (f + 1) T = partL n W i :: compsL n W f (toldN W T i) := by rw [compsL, h]
theorem next_at {n : Nat} {W : Rel} {T : Nat → Bool} {i : Nat} (hi : i < n) (h : readyB n W T i = true) (hb : ∀ k, k < i → readyB n W T k = false) : nextI n W T = some i := by
  unfold nextI
  rw [List.find?_eq_some_iff_getElem]
  refine ⟨h, i, by simpa using hi, by simp, fun j hj => ?_⟩
  rw [List.getElem_range, hb j hj]; rfl
theorem next_no {n : Nat} {W : Rel} {T : Nat → Bool} (hb : ∀ k, k < n → readyB n W T k = false) : nextI n W T = none := by
  unfold nextI
  rw [List.find?_eq_none]
  intro x hx
  rw [hb x (by simpa using hx)]; decide
theorem next_inv {n : Nat} {W : Rel} {T : Nat → Bool} {i : Nat} (h : nextI n W T = some i) : i < n ∧ readyB n W T i = true := by
  unfold nextI at h
  exact ⟨by simpa using List.mem_of_find?_eq_some h, List.find?_some h⟩
/-- what has been told is told with all that it belongs to -/
def Shut (W : Rel) (T : Nat → Bool) : Prop := ∀ a b, W a b = true → W b a = true → T a = T b
theorem shut_none (W : Rel) : Shut W (fun _ => false) := fun _ _ _ _ => rfl
theorem shut_next {n : Nat} {W : Rel} (L : Leads n W) {T : Nat → Bool} (h : Shut W T) (i : Nat) : Shut W (toldN W T i) := by
  intro a b h1 h2
  unfold toldN
  rw [h a b h1 h2]
  congr 1
  unfold inPart
  by_cases ea : a = i
  · subst ea
    by_cases eb : b = a
    · subst eb; rfl
    · rw [decide_eq_true rfl, decide_eq_false eb, h1, h2]; rfl
  · by_cases eb : b = i
    · subst eb
      rw [decide_eq_true rfl, decide_eq_false ea, h1, h2]; rfl
    · rw [decide_eq_false ea, decide_eq_false eb, Bool.false_or, Bool.false_or, Bool.eq_iff_iff, Bool.and_eq_true, Bool.and_eq_true]
      exact ⟨fun ⟨x, y⟩ => ⟨L.trans i a b x h1, L.trans b a i h2 y⟩, fun ⟨x, y⟩ => ⟨L.trans i b a x h2, L.trans a b i h1 y⟩⟩
/-- how many are untold -/
def leftN (n : Nat) (T : Nat → Bool) : Nat := ((List.range n).filter fun j => !T j).length
theorem filter_lt {l : List Nat} {p q : Nat → Bool} (h : ∀ x ∈ l, p x = true → q x = true) {y : Nat} (hy : y ∈ l) (h1 : q y = true) (h2 : p y = false) : (l.filter p).length < (l.filter q).length := by
  induction l with
  | nil => cases hy
  | cons a r ih =>
    have hr : ((r.filter p).length ≤ (r.filter q).length) := by
      have : ∀ (l : List Nat), (∀ x ∈ l, p x = true → q x = true) → (l.filter p).length ≤ (l.filter q).length := by
        intro l
        induction l with
        | nil => intro _; simp
        | cons c t iht =>
          intro hc
          have h3 := iht fun x hx => hc x (by simp [hx])
          have h4 := hc c (by simp)
          rw [List.filter_cons, List.filter_cons]
          cases hp : p c with
          | true => rw [h4 hp]; simpa using h3
          | false => cases hq : q c <;> simp <;> omega
      exact this r fun x hx => h x (by simp [hx])
    rw [List.filter_cons, List.filter_cons]
    rcases List.mem_cons.1 hy with rfl | hy
    · rw [h1, h2]; simp; omega
    · have h3 := ih (fun x hx => h x (by simp [hx])) hy
      have h4 := h a (by simp)
      cases hp : p a with
      | true => rw [h4 hp]; simpa using h3
      | false => cases hq : q a <;> simp <;> omega
theorem filter_add (l : List Nat) (p q : Nat → Bool) (h : ∀ x ∈ l, q x = true → p x = true) : (l.filter fun x => p x && !q x).length + (l.filter q).length = (l.filter p).length := by
  induction l with
  | nil => rfl
  | cons a r ih =>
    have h1 := ih fun x hx => h x (by simp [hx])
    have h2 := h a (by simp)
    rw [List.filter_cons, List.filter_cons, List.filter_cons]
    cases hq : q a with
    | true => rw [h2 hq]; simp; omega
    | false => cases hp : p a <;> simp <;> omega
theorem left_next {n : Nat} {W : Rel} {T : Nat → Bool} (hs : Shut W T) {i : Nat} (h : T i = false) : leftN n (toldN W T i) + (partL n W i).length = leftN n T := by
  unfold leftN partL
  have hq : ∀ x ∈ List.range n, inPart W i x = true → (!T x) = true := by
    intro x _ hx
    unfold inPart at hx
    rw [Bool.or_eq_true, decide_eq_true_eq, Bool.and_eq_true] at hx
    rcases hx with rfl | ⟨h1, h2⟩
    · rw [h]; rfl
    · rw [hs x i h2 h1, h]; rfl
  rw [← filter_add (List.range n) (fun j => !T j) (inPart W i) hq]
  congr 2
  apply List.filter_congr
  intro x _
  unfold toldN
  cases T x <;> simp
theorem part_pos {n : Nat} {W : Rel} {i : Nat} (hi : i < n) : 0 < (partL n W i).length := by
  refine List.length_pos_of_mem (a := i) ?_
  unfold partL inPart
  rw [List.mem_filter]
  exact ⟨by simpa using hi, by simp⟩
/-- one of those left is ready -/
theorem ready_some {n : Nat} {W : Rel} (L : Leads n W) {T : Nat → Bool} (hl : 0 < leftN n T) : ∃ i, i < n ∧ readyB n W T i = true := by
  have key : ∀ (N : Nat) (i : Nat), i < n → T i = false → ((List.range n).filter fun x => decide (x = i) || W i x).length = N → ∃ i, i < n ∧ readyB n W T i = true := by
    intro N
    induction N using Nat.strongRecOn with
    | ind N ih =>
      intro i hi hT hN
      cases hr : readyB n W T i with
      | true => exact ⟨i, hi, hr⟩
      | false =>
        unfold readyB at hr
        rw [hT] at hr
        simp only [Bool.not_false, Bool.true_and] at hr
        rw [List.all_eq_false] at hr
        obtain ⟨j, hj, hn⟩ := hr
        unfold readyJ at hn
        have hW : W i j = true := by cases h : W i j <;> simp [h] at hn ⊢
        have hB : W j i = false := by cases h : W j i <;> simp [h] at hn ⊢
        have hTj : T j = false := by cases h : T j <;> simp [h] at hn ⊢
        have hne : i ≠ j := fun e => by rw [e] at hW hB; rw [hW] at hB; cases hB
        refine ih _ ?_ j (by simpa using hj) hTj rfl
        rw [← hN]
        refine filter_lt (fun x _ hx => ?_) (y := i) (by simpa using hi) (by simp) (by simp [hne, hB])
        rw [Bool.or_eq_true, decide_eq_true_eq] at hx ⊢
        rcases hx with rfl | hx
        · exact .inr hW
        · exact .inr (L.trans i j x hW hx)
  unfold leftN at hl
  obtain ⟨i, hi⟩ := List.exists_mem_of_length_pos hl
  rw [List.mem_filter] at hi
  exact key _ i (by simpa using hi.1) (by simpa using hi.2) rfl
theorem ready_told {n : Nat} {W : Rel} {T : Nat → Bool} {i : Nat} (h : readyB n W T i = true) : T i = false ∧ ∀ j, j < n → readyJ W T i j = true := by
  unfold readyB at h
  rw [Bool.and_eq_true] at h
  exact ⟨by simpa using h.1, fun j hj => List.all_eq_true.1 h.2 j (by simpa using hj)⟩
theorem left_zero {n : Nat} {T : Nat → Bool} (h : leftN n T = 0) : ∀ i, i < n → T i = true := by
  intro i hi
  cases hT : T i with
  | true => rfl
  | false =>
    exfalso
    have : i ∈ (List.range n).filter fun j => !T j := by rw [List.mem_filter]; exact ⟨by simpa using hi, by simp [hT]⟩
    have := List.length_pos_of_mem this
    unfold leftN at h; omega
theorem next_left {n : Nat} {W : Rel} {T : Nat → Bool} (h : leftN n T = 0) : nextI n W T = none := by
  refine next_no fun k hk => ?_
  unfold readyB
  rw [left_zero h k hk]; rfl
end Go.Proofs.Ytfnjllaaadhbbaa
