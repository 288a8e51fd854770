/- The reference's own spelling of a sign: a run is a word; two bytes that are both '='. -/
import Derived.Test.YtefcdpkficojgaaDoorLexP
namespace Go.Proofs.YtefcdpkficojgaaDoor
open Go.RowKit
set_option linter.unusedVariables false

theorem ext_list (s : ByteArray) (i e : Nat) : (s.extract i e).data.toList = (s.data.toList.drop i).take (e - i) := by
  rw [ByteArray.data_extract, Array.toList_extract]
theorem at_list (s : ByteArray) (j : Nat) (h : j < s.size) : s.data.toList[j]'(by simpa using h) = s[j] := rfl
theorem word_run (s : ByteArray) (i : Nat) (h : i < s.size) (hsm : smallB (s[i].toNat : Int) = true) : wordL (s.extract i (runE s i)).data.toList = decide (runE s i - i ≤ 12) := by
  have hok : okAt s i = true := by rw [okAt_lt h, okC_or, hsm]; rfl
  obtain ⟨b1, b2⟩ := runE_bd h hok
  have hlen : ((s.data.toList.drop i).take (runE s i - i)).length = runE s i - i := by
    rw [List.length_take, List.length_drop, size_list]; omega
  have hall : ((s.data.toList.drop i).take (runE s i - i)).all okC = true := by
    rw [List.all_eq_true]
    intro c hc
    obtain ⟨j, hj, rfl⟩ := List.getElem_of_mem hc
    rw [hlen] at hj
    rw [List.getElem_take, List.getElem_drop]
    have hlt : i + j < s.size := by omega
    have := runE_all s _ i (Nat.le_refl _) (i + j) (by omega) (by omega)
    rw [okAt_lt hlt] at this
    exact this
  have hhead : smallB ((((s.data.toList.drop i).take (runE s i - i))[0]?.getD 0).toNat : Int) = true := by
    rw [List.getElem?_eq_getElem (by omega), List.getElem_take, List.getElem_drop]
    simp only [Option.getD_some, Nat.add_zero]
    exact hsm
  rw [ext_list]
  unfold wordL
  rw [hlen, hall, hhead, decide_eq_true (by omega : 1 ≤ runE s i - i)]
  simp
theorem two_eq (s : ByteArray) (i : Nat) (h : i + 2 ≤ s.size) : decide (s.extract i (i + 2) = ⟨#[61, 61]⟩) = eqTwo s i := by
  have h1 : i + 1 < s.size := by omega
  unfold eqTwo
  rw [dif_pos h1, Bool.eq_iff_iff, decide_eq_true_eq, Bool.and_eq_true, decide_eq_true_eq, decide_eq_true_eq]
  have e : (s.data.toList.drop i).take (i + 2 - i) = [s[i], s[i + 1]] := by
    apply List.ext_getElem
    · rw [List.length_take, List.length_drop, size_list]; simp; omega
    · intro j h2 h3
      rw [List.getElem_take, List.getElem_drop]
      have : j = 0 ∨ j = 1 := by simp at h3; omega
      rcases this with rfl | rfl <;> rfl
  constructor
  · intro hh
    have := congrArg (fun b : ByteArray => b.data.toList) hh
    simp only at this
    rw [ext_list, e] at this
    simp only [List.cons.injEq, and_true] at this
    rw [this.1, this.2]
    exact ⟨rfl, rfl⟩
  · rintro ⟨g1, g2⟩
    apply str_ext
    rw [ext_list, e]
    have k1 : s[i] = 61 := UInt8.toNat_inj.1 g1
    have k2 : s[i + 1] = 61 := UInt8.toNat_inj.1 g2
    rw [k1, k2]
end Go.Proofs.YtefcdpkficojgaaDoor
