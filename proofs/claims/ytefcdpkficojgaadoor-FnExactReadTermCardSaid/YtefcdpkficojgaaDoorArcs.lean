/- Lists of arcs: the contracts of the laws' helpers that measure, copy and compare them, of GraphOk in the program and in the reference, and the law over them. -/
import Derived.Test.YtefcdpkficojgaaDoorOpen
import Derived.Deep.RegionHeld3
namespace Go.Proofs.YtefcdpkficojgaaDoor
open Go.RowKit
set_option linter.unusedVariables false

abbrev Arc2 := Int × Int
def arcF (a : Arc2) : List Value := [.int .i64 a.1, .int .i64 a.2]
theorem arcF_len (a : Arc2) : (arcF a).length = 2 := rfl
def IsArcs (w : World) (v : Value) (ars : List Arc2) : Prop := IsRows 2 arcF w v ars
def i64ok (n : Int) : Prop := -9223372036854775808 ≤ n ∧ n ≤ 9223372036854775807
theorem i64ok_of {n : Int} (h : (Lit.int .i64 n).wf = true) : i64ok n := by
  simp [Lit.wf, IntKind.min, IntKind.max, IntKind.signed, IntKind.bits] at h
  exact ⟨by omega, by omega⟩
theorem rd_arc {w : World} {A : Option Addr} {ars : List Arc2} (rd : Rd w 2 A ars.length (ars.flatMap arcF)) {k : Nat} (hk : k < ars.length) :
    ∃ b off, A = some ⟨b, off, none⟩ ∧ w.cell? ⟨b, off + k * 2, none⟩ = some (.int .i64 ars[k].1) ∧ w.cell? ⟨b, off + k * 2 + 1, none⟩ = some (.int .i64 ars[k].2) := by
  obtain ⟨b, off, e, hc⟩ := rd_flat arcF_len rd hk
  exact ⟨b, off, e, hc 0 _ (by omega) rfl, hc 1 _ (by omega) rfl⟩
def arcEq (a b a' b' : Int) : Bool := decide ((a, b) = (a', b'))
theorem arcEq_pair (x y : Arc2) : arcEq x.1 x.2 y.1 y.2 = decide (x = y) := rfl
def inB (x a b : Int) : Bool := decide (a ≤ x) && decide (x ≤ b)
theorem spec_l01In (x a b : Int) (w : World) : Calls Tryd.prog 64 #[.int .i64 x, .int .i64 a, .int .i64 b] w fun e w' => e = .returned (.bool (inB x a b)) ∧ w = w' := by
  by_cases h : a ≤ x
  · go_enter Tryd.func64, Tryd.ntmps64
    go_wp2
    go_ret
    exact ⟨ret_bool (by simp only [inB, h, decide_true, Bool.true_and]), rfl⟩
  · have h' := decide_no h
    go_enter Tryd.func64, Tryd.ntmps64
    go_wp2
    go_ret
    exact ⟨ret_bool (by simp only [inB, h', Bool.false_and]), rfl⟩
def arcOk (n : Int) (a : Arc2) : Bool := inB a.1 0 (n - 1) && inB a.2 0 (n - 1)
def graphB (n : Int) (ars : List Arc2) : Bool := inB n 0 60 && decide (ars.length ≤ 2000) && ars.all (arcOk n)
theorem graph_no1 {n : Int} {ars : List Arc2} (h : inB n 0 60 = false) : graphB n ars = false := by simp [graphB, h]
theorem graph_no2 {n : Int} {ars : List Arc2} (h : 2000 < ars.length) : graphB n ars = false := by
  have : decide (ars.length ≤ 2000) = false := decide_no (by omega)
  simp [graphB, this]
theorem graph_no3 {n : Int} {ars : List Arc2} {k : Nat} (hk : k < ars.length) (h : arcOk n ars[k] = false) : graphB n ars = false := by
  have : ars.all (arcOk n) = false := by
    rw [List.all_eq_false]; exact ⟨ars[k], List.getElem_mem hk, by simp [h]⟩
  simp only [graphB, this, Bool.and_false]
theorem graph_yes {n : Int} {ars : List Arc2} (h : inB n 0 60 = true) (h2 : ars.length ≤ 2000) (h3 : ars.all (arcOk n) = true) : graphB n ars = true := by
  simp [graphB, h, h2, h3]
theorem all_succ {n : Int} {ars : List Arc2} {k : Nat} (hk : k < ars.length) (h : (ars.take k).all (arcOk n) = true) (e : arcOk n ars[k] = true) : (ars.take (k + 1)).all (arcOk n) = true := by
  have e1 : ars.take (k + 1) = ars.take k ++ [ars[k]] := List.take_succ_eq_append_getElem hk
  rw [e1, List.all_append, h]
  simp [e]
theorem inB_yes {x a b : Int} (h : a ≤ x) (h' : x ≤ b) : inB x a b = true := by simp [inB, h, h']
theorem inB_no {x a b : Int} (h : x < a ∨ b < x) : inB x a b = false := by simp [inB]; omega
theorem inB_le {x a b : Int} (h : inB x a b = true) : a ≤ x ∧ x ≤ b := by simpa [inB] using h
theorem inB_not {x a b : Int} (h : inB x a b = false) : x < a ∨ b < x := by simp [inB] at h; omega
end Go.Proofs.YtefcdpkficojgaaDoor
