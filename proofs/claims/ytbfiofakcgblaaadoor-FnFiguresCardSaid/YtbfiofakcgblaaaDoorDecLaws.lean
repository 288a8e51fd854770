/- The laws over Decimal and ReadDecimal. -/
import Derived.Test.YtbfiofakcgblaaaDoorReadDec
namespace Go.Proofs.YtbfiofakcgblaaaDoor
open Go.RowKit
set_option linter.unusedVariables false

/-- the library's table of powers lies as its initialiser lays it -/
def TabW (w : World) : Prop := Lib.TabIs Tryd.prog w "internal/strconv.uint64pow10" .u64 Lib.pow10Tab
theorem TabW.below {w w' : World} (h : TabW w) (hb : Below w.heap.size w w') : TabW w' := by
  unfold TabW Lib.TabIs World.var? at *
  cases hg : Tryd.prog.globalNamed "internal/strconv.uint64pow10" with
  | none => simp [hg] at h
  | some g =>
    simp only [hg, Option.bind_some] at h ⊢
    have hlt : g < w.heap.size := by
      rcases Nat.lt_or_ge g w.heap.size with h1 | h1
      · exact h1
      · rw [Array.getElem?_eq_none h1] at h; simp at h
    rw [hb.block g hlt]
    exact h
theorem law_Decimal (n : Int) (w : World) (wf : (Lit.int .i64 n).wf = true) (tab : TabW w) :
    Calls Tryd.prog 3 #[.int .i64 n] w fun e w' => e = .returned (.bool true) ∧ Below w.heap.size w w' := by
  have TB := Lib.hid tab
  clear tab
  have hb : -9223372036854775808 ≤ n ∧ n ≤ 9223372036854775807 := by
    simp [Lit.wf, IntKind.min, IntKind.max, IntKind.signed, IntKind.bits] at wf
    exact ⟨by omega, by omega⟩
  obtain ⟨h0, h1⟩ := hb
  clear wf
  go_enter Tryd.func3, Tryd.ntmps3
  go_wp2_with fail
  refine (spec_Decimal n h0 h1 _).mono ?_
  rintro e w1 ⟨rfl, b1⟩
  have B1 := Lib.hid b1
  clear b1
  go_wp2_with fail
  refine (impl_Decimal n h0 h1 _ (TB.out.below B1.out)).mono ?_
  rintro e w2 ⟨rfl, b2⟩
  have B2 := Lib.hid (below_then B1.out b2)
  clear b2
  generalize Lib.itoa n = l at *
  go_wp2_with fail
  go_ret
  exact ⟨rfl, B2.out⟩
theorem law_ReadDecimal (s : ByteArray) (w : World) (wf : s.size ≤ maxLen) (tab : TabW w) :
    Calls Tryd.prog 4 #[.string s] w fun e w' => e = .returned (.bool true) ∧ Below w.heap.size w w' := by
  have TB := Lib.hid tab
  clear tab wf
  by_cases hl : 1048576 < s.size
  · have hl' : (1048576 : Int) < (s.size : Int) := by omega
    go_enter Tryd.func4, Tryd.ntmps4
    go_wp2_with fail
    go_ret
    exact ⟨rfl, Below.refl _ _⟩
  have hl' : ¬ (1048576 : Int) < (s.size : Int) := by omega
  go_enter Tryd.func4, Tryd.ntmps4
  go_wp2_with fail
  refine (spec_ReadDecimal s _).mono ?_
  rintro e w1 ⟨rfl, b1⟩
  have B1 := Lib.hid b1
  clear b1
  generalize hr : readD s = r at *
  obtain ⟨x, b⟩ := r
  have HR := Lib.hid hr
  clear hr
  go_wp2_with fail
  refine (impl_ReadDecimal s _ (TB.out.below B1.out)).mono ?_
  rintro e w2 ⟨rfl, b2⟩
  have B2 := Lib.hid (below_then B1.out b2)
  clear b2
  rw [HR.out]
  have q1 : (x != x) = false := by simp
  have q2 : (b != b) = false := by cases b <;> rfl
  go_wp2_with fail
  go_ret
  exact ⟨rfl, B2.out⟩
end Go.Proofs.YtbfiofakcgblaaaDoor
