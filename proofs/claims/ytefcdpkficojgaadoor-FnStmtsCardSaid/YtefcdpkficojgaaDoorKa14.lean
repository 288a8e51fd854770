/- Several texts in one: Work, Hex. -/
import Derived.Test.YtefcdpkficojgaaDoorKa13
import Derived.Test.YtefcdpkficojgaaDoorKa9
import Derived.Test.YtefcdpkficojgaaDoorKa1
import Derived.StillTailTactics
import Derived.Deep.RegionHeld3
namespace Go.Proofs.YtefcdpkficojgaaDoor
open Go.RowKit
set_option linter.unusedVariables false


/-- a right term that is no leaf has one kid or two, right ones -/
theorem okT_kids {room : Nat} {k n : Int} {s : ByteArray} {kids : List Tm} (h1 : k ≠ 1) (h2 : k ≠ 2) (h : okT room (.mk k n s kids) = true) :
    ∃ r, room = r + 1 ∧ ((k = 8 ∧ ∃ x, kids = [x] ∧ okT r x = true) ∨ ((k = 3 ∨ k = 4 ∨ k = 5 ∨ k = 6 ∨ k = 7 ∨ k = 9) ∧ ∃ x y, kids = [x, y] ∧ okT r x = true ∧ okT r y = true)) := by
  have g1 : (k == 1) = false := beq_eq_false_iff_ne.2 h1
  have g2 : (k == 2) = false := beq_eq_false_iff_ne.2 h2
  cases room with
  | zero => rw [okT_zero g1 g2] at h; cases h
  | succ r =>
    rw [okT_more g1 g2] at h
    simp only [Bool.and_eq_true, beq_iff_eq] at h
    obtain ⟨⟨⟨⟨a1, a2⟩, a3⟩, a4⟩, a5⟩ := h
    have := inB_le a1
    refine ⟨r, rfl, ?_⟩
    by_cases e : k = 8
    · subst e
      simp only [manyK, if_true] at a4
      match kids, a4 with
      | [x], _ => exact .inl ⟨rfl, x, rfl, by simpa using a5⟩
    · rw [manyK, if_neg e] at a4
      match kids, a4 with
      | [x, y], _ => exact .inr ⟨by omega, x, y, rfl, by simpa using a5⟩

def figC (n : Nat) : UInt8 := if n < 10 then UInt8.ofNat (48 + n) else UInt8.ofNat (87 + n)
theorem figC_toNat (n : Nat) (h : n < 16) : ((figC n).toNat : Int) = if (n : Int) < 10 then 48 + (n : Int) else 87 + (n : Int) := by
  unfold figC
  by_cases h1 : n < 10
  · have : (n : Int) < 10 := by omega
    simp only [h1, this, if_true, UInt8.toNat_ofNat']
    omega
  · have : ¬ (n : Int) < 10 := by omega
    simp only [h1, this, if_false, UInt8.toNat_ofNat']
    omega
theorem u8T : ElemT Tryd.prog 40 5 1 1 := ElemT.mk' (z := .int .u8 0) Tryd.underlying40 (by kernel_rfl) rfl (by decide)
theorem str_run {w : World} {A : Option Addr} {n : Nat} (c : Nat) {l : List UInt8} (rd : Rd w 1 A n (bv l)) : (convert 40 9 (.slice A n c)).run Tryd.prog w = .ok (.string ⟨l.toArray⟩) w :=
  run_str 40 5 9 Tryd.underlying40 Tryd.underlying5 Tryd.underlying9 c rd
theorem spec_l01Figure (x : Int) (w : World) (h0 : 0 ≤ x) (h1 : x < 16) : Calls Tryd.prog 157 #[.int .i64 x] w fun e w' => e = .returned (.int .u8 ((figC x.toNat).toNat : Int)) ∧ w = w' := by
  obtain ⟨n, rfl⟩ := Int.eq_ofNat_of_zero_le h0
  have hf := Lib.hid (figC_toNat n (by omega))
  by_cases h2 : (n : Int) < 10
  · go_enter Tryd.func157, Tryd.ntmps157
    go_wp2
    go_ret
    exact ⟨ret_int (by rw [Int.toNat_natCast, hf.out, if_pos h2]), rfl⟩
  · go_enter Tryd.func157, Tryd.ntmps157
    go_wp2
    go_ret
    exact ⟨ret_int (by (first | rw [hf.out, if_neg (by omega)] | rw [Int.toNat_natCast, hf.out, if_neg (by omega)]); omega), rfl⟩
end Go.Proofs.YtefcdpkficojgaaDoor
