/- The empty term. -/
import Derived.Test.YtefcdpkficojgaaDoorTermOkLaw
import Derived.Test.YtefcdpkficojgaaDoorSameTerm
namespace Go.Proofs.YtefcdpkficojgaaDoor
open Go.RowKit
set_option linter.unusedVariables false

def zeroTm : Tm := .mk 0 0 ByteArray.empty []
theorem empty_of {s : ByteArray} (h : s.toList.isEmpty = true) : s = ByteArray.empty := by
  rw [Lib.toList_data] at h
  apply str_ext
  rw [List.isEmpty_iff.1 h]; rfl
theorem zero_iff (k n : Int) (s : ByteArray) (kids : List Tm) : sameB (.mk k n s kids) zeroTm = ((k == 0) && (n == 0) && s.toList.isEmpty && ((kids.length : Int) == 0)) := by
  cases h : ((k == 0) && (n == 0) && s.toList.isEmpty && ((kids.length : Int) == 0)) with
  | true =>
    simp only [Bool.and_eq_true, beq_iff_eq] at h
    obtain ⟨⟨⟨h1, h2⟩, h3⟩, h4⟩ := h
    have e4 : kids = [] := List.eq_nil_of_length_eq_zero (by omega)
    exact sameB_yes (by rw [h1, h2, empty_of h3, e4]; rfl)
  | false =>
    refine sameB_no fun e => ?_
    unfold zeroTm at e
    injection e with e1 e2 e3 e4
    subst e1 e2 e3 e4
    have h3 : (ByteArray.empty).toList.isEmpty = true := by rw [Lib.toList_data]; rfl
    rw [h3] at h
    simp at h
set_option maxHeartbeats 800000 in
theorem impl_isZeroTerm (t : Tm) (k n : Int) (s : ByteArray) (A : Option Addr) (m c : Nat) (w : World) (ht : TmIs AnyB w [.int .i64 k, .int .i64 n, .string s, .slice A m c] t) :
    Calls Tryd.prog 211 #[.agg #[.int .i64 k, .int .i64 n, .string s, .slice A m c]] w fun e w' => e = .returned (.bool (sameB t zeroTm)) ∧ Below w.heap.size w w' := by
  obtain ⟨kids, rfl, rfl, hl, hc, _⟩ := ht.inv
  unfold maxLen at hc
  clear ht
  rw [zero_iff]
  cases h1 : (k == 0) <;> cases h2 : (n == 0) <;> cases h3 : s.toList.isEmpty <;> cases h4 : ((kids.length : Int) == 0)
  all_goals
    go_enter Tryd.func211, Tryd.ntmps211
    go_wp2_with fail
    go_ret
    exact ⟨rfl, (by repeat' (first | exact Below.refl _ _ | exact Nat.le_refl _ | (refine Below.alloc ?_ ?_ _) | (refine Below.setCell ?_ ?_ _) | (refine Below.drew ?_) | (refine below_drewN ?_ _) | assumption | (simp; done) | (simp; omega)))⟩
end Go.Proofs.YtefcdpkficojgaaDoor
