/- A right term's text, in plain words. -/
import Derived.Test.YtefcdpkficojgaaDoorWork
import Derived.Test.YtefcdpkficojgaaDoorItoa
namespace Go.Proofs.YtefcdpkficojgaaDoor
open Go.RowKit
set_option linter.unusedVariables false

def signB (k : Int) : ByteArray := if k = 3 then ⟨#[43]⟩ else if k = 4 then ⟨#[45]⟩ else if k = 5 then ⟨#[42]⟩ else if k = 6 then ⟨#[60]⟩ else if k = 7 then ⟨#[61, 61]⟩ else ⟨#[97, 110, 100]⟩
def signK (k : Int) : List UInt8 := (signB k).data.toList
theorem signK_len (k : Int) : (signK k).length ≤ 3 := by
  unfold signK signB
  repeat' split
  all_goals decide
def joinT (k : Int) (a b : List UInt8) : List UInt8 := if k = 8 then [40, 110, 111, 116, 32] ++ a ++ [41] else [40] ++ a ++ ([32] ++ signK k ++ [32]) ++ b ++ [41]
mutual
def txtT : Tm → List UInt8
  | .mk k n s kids => if k = 1 then Lib.itoa n else if k = 2 then s.data.toList else joinT k ((txtTs kids)[0]?.getD []) ((txtTs kids)[1]?.getD [])
def txtTs : List Tm → List (List UInt8)
  | [] => []
  | t :: r => txtT t :: txtTs r
end
theorem txtT_num {n : Int} {s : ByteArray} {kids : List Tm} : txtT (.mk 1 n s kids) = Lib.itoa n := by rw [txtT, if_pos rfl]
theorem txtT_var {n : Int} {s : ByteArray} {kids : List Tm} : txtT (.mk 2 n s kids) = s.data.toList := by rw [txtT, if_neg (by decide), if_pos rfl]
theorem txtT_one {n : Int} {s : ByteArray} {x : Tm} : txtT (.mk 8 n s [x]) = [40, 110, 111, 116, 32] ++ txtT x ++ [41] := by
  simp [txtT, txtTs, joinT]
theorem txtT_two {k n : Int} {s : ByteArray} {x y : Tm} (h1 : k ≠ 1) (h2 : k ≠ 2) (h8 : k ≠ 8) : txtT (.mk k n s [x, y]) = [40] ++ txtT x ++ ([32] ++ signK k ++ [32]) ++ txtT y ++ [41] := by
  rw [txtT, if_neg h1, if_neg h2, txtTs, txtTs, txtTs, joinT, if_neg h8]; rfl
theorem name_len {l : List UInt8} (h : isNameL l = true) : l.length ≤ 12 := by
  rcases Nat.lt_or_ge 12 l.length with h1 | h1
  · have := not_name _ (word_long l h1)
    rw [this] at h; cases h
  · exact h1
/-- a right term's text is short -/
theorem txt_len (r : Nat) : ∀ t, okT r t = true → (txtT t).length + 8 ≤ 30 * 2 ^ r := by
  induction r with
  | zero =>
    intro t h
    obtain ⟨k, n, s, kids⟩ := t
    by_cases h1 : k = 1
    · subst h1
      rw [okT_num, Bool.and_eq_true, Bool.and_eq_true] at h
      rw [txtT_num]
      have hb := h.1.1
      have := Lib.itoa_length_le n (by simp [inB] at hb; omega) (by simp [inB] at hb; omega)
      omega
    by_cases h2 : k = 2
    · subst h2
      rw [okT_var, Bool.and_eq_true, Bool.and_eq_true] at h
      rw [txtT_var]
      have := name_len h.1.2
      omega
    rw [okT_zero (by simpa using h1) (by simpa using h2)] at h
    cases h
  | succ r ih =>
    intro t h
    obtain ⟨k, n, s, kids⟩ := t
    have hp : 2 ^ (r + 1) = 2 ^ r + 2 ^ r := by rw [Nat.pow_succ]; omega
    have hpos := Nat.two_pow_pos r
    by_cases h1 : k = 1
    · subst h1
      rw [okT_num, Bool.and_eq_true, Bool.and_eq_true] at h
      rw [txtT_num]
      have hb := h.1.1
      have := Lib.itoa_length_le n (by simp [inB] at hb; omega) (by simp [inB] at hb; omega)
      omega
    by_cases h2 : k = 2
    · subst h2
      rw [okT_var, Bool.and_eq_true, Bool.and_eq_true] at h
      rw [txtT_var]
      have := name_len h.1.2
      omega
    obtain ⟨r', he, ⟨rfl, x, rfl, hx⟩ | ⟨hk, x, y, rfl, hx, hy⟩⟩ := okT_kids h1 h2 h
    · have : r' = r := by omega
      subst this
      have := ih x hx
      rw [txtT_one]
      simp only [List.length_append, List.length_cons, List.length_nil]; omega
    · have : r' = r := by omega
      subst this
      have := ih x hx
      have := ih y hy
      have := signK_len k
      rw [txtT_two h1 h2 (by omega)]
      simp only [List.length_append, List.length_cons, List.length_nil]; omega
def txtR (t : Tm) : List UInt8 := if okT 6 t = true then txtT t else []
theorem txtR_yes {t : Tm} (h : okT 6 t = true) : txtR t = txtT t := by simp [txtR, h]
theorem txtR_no {t : Tm} (h : okT 6 t = false) : txtR t = [] := by simp [txtR, h]
/-- the number of a right leaf is within bounds -/
theorem okT_num_bd {r : Nat} {n : Int} {s : ByteArray} {kids : List Tm} (h : okT r (.mk 1 n s kids) = true) : 0 ≤ n ∧ n ≤ 1000000000 := by
  rw [okT_num, Bool.and_eq_true, Bool.and_eq_true] at h
  have hb := h.1.1
  simp [inB] at hb
  exact hb
end Go.Proofs.YtefcdpkficojgaaDoor
