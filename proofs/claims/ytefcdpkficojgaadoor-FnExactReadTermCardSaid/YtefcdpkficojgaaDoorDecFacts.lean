/- A number's figures read back as the number. -/
import Derived.Test.YtefcdpkficojgaaDoorReadDec
namespace Go.Proofs.YtefcdpkficojgaaDoor
open Go.RowKit
set_option linter.unusedVariables false

theorem dec_dig {x : Nat} (h : x < 10) : (UInt8.ofNat (48 + x)).toNat = 48 + x := by rw [UInt8.toNat_ofNat']; omega
theorem dec_facts (u : Nat) : valL (Lib.decDigits u) = u ∧ (Lib.decDigits u).all isDig = true := by
  induction u using Nat.strongRecOn with
  | ind u ih =>
    rw [Lib.decDigits]
    by_cases h : u < 10
    · rw [dif_pos h]
      have e := dec_dig h
      refine ⟨?_, ?_⟩
      · simp only [valL, List.foldl_cons, List.foldl_nil, e]; omega
      · simp only [List.all_cons, List.all_nil, isDig, e, Bool.and_true]
        rw [decide_eq_true (by omega), decide_eq_true (by omega)]; rfl
    · rw [dif_neg h]
      obtain ⟨h1, h2⟩ := ih (u / 10) (by omega)
      have e := dec_dig (x := u % 10) (by omega)
      refine ⟨?_, ?_⟩
      · rw [valL_snoc, h1, e]; omega
      · rw [List.all_append, h2]
        simp only [List.all_cons, List.all_nil, isDig, e, Bool.and_true, Bool.true_and]
        rw [decide_eq_true (by omega), decide_eq_true (by omega)]; rfl
theorem dec_len (k : Nat) : ∀ u, u < 10 ^ (k + 1) → (Lib.decDigits u).length ≤ k + 1 := by
  induction k with
  | zero => intro u h; rw [Lib.decDigits, dif_pos (by simpa using h)]; simp
  | succ k ih =>
    intro u h
    rw [Lib.decDigits]
    by_cases h1 : u < 10
    · rw [dif_pos h1]; simp
    · rw [dif_neg h1, List.length_append]
      have := ih (u / 10) (by rw [Nat.pow_succ] at h; omega)
      simp only [List.length_cons, List.length_nil]; omega
theorem read_itoa {n : Int} (h0 : 0 ≤ n) (h1 : n ≤ 1000000000) : readD ⟨(Lib.itoa n).toArray⟩ = (n, true) := by
  obtain ⟨u, rfl⟩ := Int.eq_ofNat_of_zero_le h0
  have e : Lib.itoa (u : Int) = Lib.decDigits u := by
    unfold Lib.itoa; rw [if_neg (by omega)]; simp
  obtain ⟨f1, f2⟩ := dec_facts u
  have f3 := dec_len 9 u (by omega)
  rw [e]
  have f4 : valL (⟨(Lib.decDigits u).toArray⟩ : ByteArray).data.toList = u := f1
  rw [readD_yes (by rw [str_size]; omega) f2 (by rw [f4]; omega) (by rw [f4, e]), f4]
end Go.Proofs.YtefcdpkficojgaaDoor
