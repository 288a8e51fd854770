/- Reading terms from signs, in plain words. -/
import Derived.Test.YtefcdpkficojgaaDoorLexT
import Derived.Test.YtefcdpkficojgaaDoorTerms
namespace Go.Proofs.YtefcdpkficojgaaDoor
open Go.RowKit
set_option linter.unusedVariables false

def sg0 : Sg := ⟨0, ⟨#[]⟩, 0⟩
def sgAt (L : List Sg) (i : Nat) : Sg := (L[i]?).getD sg0
def tx (L : List Sg) (i : Nat) : ByteArray := (sgAt L i).t
def nmB (L : List Sg) (i : Nat) : Bool := isNameL (tx L i).data.toList
/-- where a fault at the i-th sign stands: at the text's end behind the last one -/
def posAt (L : List Sg) (n i : Nat) : Nat := ((L[i]?).map fun g => g.p).getD n
theorem sgAt_lt {L : List Sg} {i : Nat} (h : i < L.length) : sgAt L i = L[i] := by unfold sgAt; rw [List.getElem?_eq_getElem h]; rfl
theorem sgAt_ge {L : List Sg} {i : Nat} (h : ¬ i < L.length) : sgAt L i = sg0 := by unfold sgAt; rw [List.getElem?_eq_none (by omega)]; rfl
theorem posAt_lt {L : List Sg} {n i : Nat} (h : i < L.length) : posAt L n i = L[i].p := by unfold posAt; rw [List.getElem?_eq_getElem h]; rfl
theorem posAt_ge {L : List Sg} {n i : Nat} (h : ¬ i < L.length) : posAt L n i = n := by unfold posAt; rw [List.getElem?_eq_none (by omega)]; rfl
theorem tx_lt {L : List Sg} {i : Nat} (h : i < L.length) : tx L i = L[i].t := by unfold tx; rw [sgAt_lt h]
theorem tx_ge {L : List Sg} {i : Nat} (h : ¬ i < L.length) : tx L i = ⟨#[]⟩ := by unfold tx; rw [sgAt_ge h]; rfl
theorem nmB_ge {L : List Sg} {i : Nat} (h : ¬ i < L.length) : nmB L i = false := by unfold nmB; rw [tx_ge h]; decide
/-- what reading yields: a fault and its place, or what was read and the sign behind it -/
inductive Got (α : Type) where
  | bad (c : Int) (p : Nat)
  | ok (a : α) (i : Nat)
def kindOf (t : ByteArray) : Int := if t = ⟨#[43]⟩ then 3 else if t = ⟨#[45]⟩ then 4 else if t = ⟨#[42]⟩ then 5 else if t = ⟨#[60]⟩ then 6 else if t = ⟨#[61, 61]⟩ then 7 else if t = ⟨#[97, 110, 100]⟩ then 9 else 0
theorem kindOf_cases (t : ByteArray) : kindOf t = 0 ∨ ((kindOf t = 3 ∨ kindOf t = 4 ∨ kindOf t = 5 ∨ kindOf t = 6 ∨ kindOf t = 7 ∨ kindOf t = 9)) := by
  unfold kindOf
  repeat' split
  all_goals simp
def closeT (L : List Sg) (n : Nat) (t : Tm) (q : Nat) : Got Tm := if tx L q = ⟨#[41]⟩ then .ok t (q + 1) else .bad 3 (posAt L n q)
def innT (L : List Sg) (n : Nat) (rd : Nat → Got Tm) (i : Nat) : Got Tm :=
  if tx L i = ⟨#[110, 111, 116]⟩ then
    match rd (i + 1) with
    | .bad c p => .bad c p
    | .ok x q => closeT L n (.mk 8 0 ⟨#[]⟩ [x]) q
  else
    match rd i with
    | .bad c p => .bad c p
    | .ok a q =>
      if kindOf (tx L q) = 0 then .bad 3 (posAt L n q) else
        match rd (q + 1) with
        | .bad c p => .bad c p
        | .ok b q2 => closeT L n (.mk (kindOf (tx L q)) 0 ⟨#[]⟩ [a, b]) q2
def leafT (L : List Sg) (n i : Nat) (inner : Got Tm) : Got Tm :=
  if (sgAt L i).k = 2 then .ok (.mk 1 (readD (tx L i)).1 ⟨#[]⟩ []) (i + 1)
  else if nmB L i = true then .ok (.mk 2 0 (tx L i) []) (i + 1)
  else if tx L i = ⟨#[40]⟩ then inner else .bad 3 (posAt L n i)
def rdT (L : List Sg) (n : Nat) : Nat → Nat → Got Tm
  | 0, i => leafT L n i (.bad 4 (posAt L n i))
  | r + 1, i => leafT L n i (innT L n (rdT L n r) (i + 1))
theorem leafT_num {L : List Sg} {n i : Nat} {g : Got Tm} (h : (sgAt L i).k = 2) : leafT L n i g = .ok (.mk 1 (readD (tx L i)).1 ⟨#[]⟩ []) (i + 1) := by unfold leafT; rw [if_pos h]
theorem leafT_var {L : List Sg} {n i : Nat} {g : Got Tm} (h : ¬ (sgAt L i).k = 2) (h2 : nmB L i = true) : leafT L n i g = .ok (.mk 2 0 (tx L i) []) (i + 1) := by unfold leafT; rw [if_neg h, if_pos h2]
theorem leafT_in {L : List Sg} {n i : Nat} {g : Got Tm} (h : ¬ (sgAt L i).k = 2) (h2 : nmB L i = false) (h3 : tx L i = ⟨#[40]⟩) : leafT L n i g = g := by unfold leafT; rw [if_neg h, if_neg (by rw [h2]; decide), if_pos h3]
theorem leafT_bad {L : List Sg} {n i : Nat} {g : Got Tm} (h : ¬ (sgAt L i).k = 2) (h2 : nmB L i = false) (h3 : ¬ tx L i = ⟨#[40]⟩) : leafT L n i g = .bad 3 (posAt L n i) := by unfold leafT; rw [if_neg h, if_neg (by rw [h2]; decide), if_neg h3]
/-- a sign that is there -/
theorem there_of {L : List Sg} {i : Nat} (h : tx L i ≠ ⟨#[]⟩) : i < L.length := by
  rcases Nat.lt_or_ge i L.length with h1 | h1
  · exact h1
  · exact absurd (tx_ge (by omega)) h
theorem there_k {L : List Sg} {i : Nat} (h : (sgAt L i).k = 2) : i < L.length := by
  rcases Nat.lt_or_ge i L.length with h1 | h1
  · exact h1
  · rw [sgAt_ge (by omega)] at h; exact absurd h (by decide)
theorem there_n {L : List Sg} {i : Nat} (h : nmB L i = true) : i < L.length := by
  rcases Nat.lt_or_ge i L.length with h1 | h1
  · exact h1
  · rw [nmB_ge (by omega)] at h; cases h
theorem kindOf_empty : kindOf ⟨#[]⟩ = 0 := by decide
theorem there_kind {L : List Sg} {i : Nat} (h : ¬ kindOf (tx L i) = 0) : i < L.length := there_of fun e => h (by rw [e, kindOf_empty])
theorem closeT_ok {L : List Sg} {n q : Nat} {t t' : Tm} {q' : Nat} (h : closeT L n t q = .ok t' q') : t' = t ∧ q' = q + 1 ∧ q < L.length := by
  unfold closeT at h
  split at h
  · next h1 => injection h with h2 h3; exact ⟨h2.symm, h3.symm, there_of (by rw [h1]; decide)⟩
  · cases h
/-- a term that was read lies ahead of the sign behind it -/
theorem rdT_lt (L : List Sg) (n r : Nat) : ∀ i t q, rdT L n r i = .ok t q → i < q ∧ q ≤ L.length := by
  have leaf : ∀ i t q g, (∀ t q, g = .ok t q → i < q ∧ q ≤ L.length) → leafT L n i g = .ok t q → i < q ∧ q ≤ L.length := by
    intro i t q g hg h
    unfold leafT at h
    split at h
    · next h1 => injection h with _ h; have := there_k h1; omega
    · split at h
      · next h1 => injection h with _ h; have := there_n h1; omega
      · split at h
        · exact hg _ _ h
        · cases h
  induction r with
  | zero => intro i t q h; rw [rdT] at h; exact leaf i t q _ (fun _ _ h => by cases h) h
  | succ r ih =>
    intro i t q h
    rw [rdT] at h
    refine leaf i t q _ ?_ h
    intro t q h
    unfold innT at h
    split at h
    · split at h
      · cases h
      · next x q1 h1 =>
        have := ih _ _ _ h1
        obtain ⟨_, h2, h3⟩ := closeT_ok h
        omega
    · split at h
      · cases h
      · next a q1 h1 =>
        have := ih _ _ _ h1
        split at h
        · cases h
        · next hk =>
          split at h
          · cases h
          · next b q2 h2 =>
            have := ih _ _ _ h2
            obtain ⟨_, h2, h3⟩ := closeT_ok h
            omega
def anyG {α : Type} : Got α → Bool
  | .bad _ _ => false
  | .ok _ _ => true
/-- a whole text's term -/
def endT {α : Type} (L : List Sg) (n : Nat) : Got α → Got α
  | .bad c p => .bad c p
  | .ok t q => if q < L.length then .bad 3 (posAt L n q) else .ok t q
end Go.Proofs.YtefcdpkficojgaaDoor
