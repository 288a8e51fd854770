/- The signs of a text, in plain words. -/
import Derived.Test.YtefcdpkficojgaaDoorReadDec
import Derived.Test.YtefcdpkficojgaaDoorNames
import Derived.Test.YtefcdpkficojgaaDoorWords
namespace Go.Proofs.YtefcdpkficojgaaDoor
open Go.RowKit
set_option linter.unusedVariables false

structure Sg where
  k : Int
  t : ByteArray
  p : Nat
def okAt (s : ByteArray) (i : Nat) : Bool := if h : i < s.size then okC s[i] else false
/-- where a run of letters and figures ends -/
def runE (s : ByteArray) (i : Nat) : Nat := if okAt s i = true then runE s (i + 1) else i
termination_by s.size - i
decreasing_by
  have : i < s.size := by
    rename_i h
    unfold okAt at h
    split at h
    · assumption
    · cases h
  omega
theorem runE_yes {s : ByteArray} {i : Nat} (h : okAt s i = true) : runE s i = runE s (i + 1) := by rw [runE, if_pos h]
theorem runE_no {s : ByteArray} {i : Nat} (h : okAt s i = false) : runE s i = i := by rw [runE, if_neg (by rw [h]; decide)]
theorem okAt_lt {s : ByteArray} {i : Nat} (h : i < s.size) : okAt s i = okC s[i] := by unfold okAt; rw [dif_pos h]
theorem okAt_ge {s : ByteArray} {i : Nat} (h : ¬ i < s.size) : okAt s i = false := by unfold okAt; rw [dif_neg h]
theorem runE_ge (s : ByteArray) (n : Nat) : ∀ i, s.size - i ≤ n → i ≤ runE s i := by
  induction n with
  | zero => intro i h; rw [runE_no (okAt_ge (by omega))]; omega
  | succ n ih =>
    intro i h
    cases e : okAt s i with
    | false => rw [runE_no e]; omega
    | true => rw [runE_yes e]; have := ih (i + 1) (by omega); omega
theorem runE_le (s : ByteArray) (n : Nat) : ∀ i, s.size - i ≤ n → i ≤ s.size → runE s i ≤ s.size := by
  induction n with
  | zero => intro i h h2; rw [runE_no (okAt_ge (by omega))]; omega
  | succ n ih =>
    intro i h h2
    cases e : okAt s i with
    | false => rw [runE_no e]; omega
    | true =>
      rw [runE_yes e]
      by_cases h3 : i < s.size
      · exact ih (i + 1) (by omega) (by omega)
      · rw [okAt_ge h3] at e; cases e
theorem runE_bd {s : ByteArray} {i : Nat} (h : i < s.size) (e : okAt s i = true) : i + 1 ≤ runE s i ∧ runE s i ≤ s.size := by
  rw [runE_yes e]
  exact ⟨runE_ge s _ (i + 1) (Nat.le_refl _), runE_le s _ (i + 1) (Nat.le_refl _) (by omega)⟩
/-- all between are letters or figures -/
theorem runE_all (s : ByteArray) (n : Nat) : ∀ i, s.size - i ≤ n → ∀ j, i ≤ j → j < runE s i → okAt s j = true := by
  induction n with
  | zero => intro i h j h1 h2; rw [runE_no (okAt_ge (by omega))] at h2; omega
  | succ n ih =>
    intro i h j h1 h2
    cases e : okAt s i with
    | false => rw [runE_no e] at h2; omega
    | true =>
      rw [runE_yes e] at h2
      rcases Nat.eq_or_lt_of_le h1 with rfl | h3
      · exact e
      · exact ih (i + 1) (by omega) j h3 h2
def markB (s : ByteArray) : Bool := isMarkL s.toList
def eqTwo (s : ByteArray) (i : Nat) : Bool := if h : i + 1 < s.size then decide (s[i].toNat = 61) && decide (s[i + 1].toNat = 61) else false
/-- the sign at a byte that is no blank: its kind, where it ends, whether it is one -/
def signP (s : ByteArray) (i : Nat) (h : i < s.size) : Int × Nat × Bool :=
  if smallB (s[i].toNat : Int) = true then (1, runE s i, decide (runE s i - i ≤ 12))
  else if figB (s[i].toNat : Int) = true then (2, runE s i, (readD (s.extract i (runE s i))).2)
  else (3, if eqTwo s i = true then i + 2 else i + 1, markB (s.extract i (if eqTwo s i = true then i + 2 else i + 1)))
theorem okC_or (c : UInt8) : okC c = (smallB (c.toNat : Int) || figB (c.toNat : Int)) := rfl
theorem signP_bd (s : ByteArray) (i : Nat) (h : i < s.size) : i + 1 ≤ (signP s i h).2.1 ∧ (signP s i h).2.1 ≤ s.size := by
  unfold signP
  by_cases c1 : smallB (s[i].toNat : Int) = true
  · rw [if_pos c1]
    exact runE_bd h (by rw [okAt_lt h, okC_or, c1]; rfl)
  rw [if_neg c1]
  by_cases c2 : figB (s[i].toNat : Int) = true
  · rw [if_pos c2]
    exact runE_bd h (by rw [okAt_lt h, okC_or, c2]; simp)
  rw [if_neg c2]
  simp only
  split
  · rename_i e
    unfold eqTwo at e
    split at e
    · omega
    · cases e
  · omega
def blankB (c : UInt8) : Bool := decide (c.toNat = 32) || decide (c.toNat = 9) || decide (c.toNat = 10) || decide (c.toNat = 13)
/-- from a byte on: the signs, and the fault -/
def lexS (s : ByteArray) (i : Nat) (acc : List Sg) : List Sg × Int × Int :=
  if h : i < s.size then
    if blankB s[i] = true then lexS s (i + 1) acc
    else if (signP s i h).2.2 = true then lexS s (signP s i h).2.1 (acc ++ [⟨(signP s i h).1, s.extract i (signP s i h).2.1, i⟩])
    else ([], 2, (i : Int))
  else (acc, 0, 0)
termination_by s.size - i
decreasing_by
  · omega
  · have := signP_bd s i h; omega
theorem lexS_end {s : ByteArray} {i : Nat} {acc : List Sg} (h : ¬ i < s.size) : lexS s i acc = (acc, 0, 0) := by rw [lexS, dif_neg h]
theorem lexS_blank {s : ByteArray} {i : Nat} {acc : List Sg} (h : i < s.size) (hb : blankB s[i] = true) : lexS s i acc = lexS s (i + 1) acc := by rw [lexS, dif_pos h, if_pos hb]
theorem lexS_sign {s : ByteArray} {i : Nat} {acc : List Sg} (h : i < s.size) (hb : blankB s[i] = false) (ho : (signP s i h).2.2 = true) : lexS s i acc = lexS s (signP s i h).2.1 (acc ++ [⟨(signP s i h).1, s.extract i (signP s i h).2.1, i⟩]) := by
  rw [lexS, dif_pos h, if_neg (by rw [hb]; decide), if_pos ho]
theorem lexS_bad {s : ByteArray} {i : Nat} {acc : List Sg} (h : i < s.size) (hb : blankB s[i] = false) (ho : (signP s i h).2.2 = false) : lexS s i acc = ([], 2, (i : Int)) := by
  rw [lexS, dif_pos h, if_neg (by rw [hb]; decide), if_neg (by rw [ho]; decide)]
def lexR (s : ByteArray) : List Sg × Int × Int := if 6000 < s.size then ([], 1, 0) else lexS s 0 []
theorem lexR_long {s : ByteArray} (h : 6000 < s.size) : lexR s = ([], 1, 0) := by unfold lexR; rw [if_pos h]
theorem lexR_short {s : ByteArray} (h : ¬ 6000 < s.size) : lexR s = lexS s 0 [] := by unfold lexR; rw [if_neg h]
end Go.Proofs.YtefcdpkficojgaaDoor
