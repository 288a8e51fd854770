/- The reference's l08Proc and l08End. -/
import Derived.Test.YtefcdpkficojgaaDoorCdOkP
import Derived.IntWalk
namespace Go.Proofs.YtefcdpkficojgaaDoor
open Go.RowKit
set_option linter.unusedVariables false

set_option maxHeartbeats 800000 in
theorem spec_l08Proc (p : Cd) (x : V5) (w : World) (hp : CdIs w x p) (a : Int) :
    Calls Tryd.prog 204 #[x.val p, .int .i64 a] w fun e w' => e = .returned (.int .i64 (procE p.entry a p.entry.length)) ∧ Below w.heap.size w w' := by
  obtain ⟨gA, gc, lA, lc, pA, pc, eA, ec, iA, ic⟩ := x
  have RD := Lib.hid hp.e3
  have hl := hp.e1
  have hc := hp.e2
  simp only at hl hc
  unfold maxLen at hc
  unfold V5.val
  simp only
  clear hp
  go_enter Tryd.func204, Tryd.ntmps204
  go_wp2_with fail
  go_loop [5] (fun i => ∃ m : Int, -1 ≤ m ∧ m < (p.entry.length : Int) ∧ i = .int .i64 m ∧ Hid (procE p.entry a p.entry.length = procE p.entry a (m + 1).toNat)) (fun i => (intOf i + 1).toNat)
  case atStart => exact ⟨_, by omega, by omega, rfl, Lib.hid (by rw [show ((p.entry.length : Int) - 1 + 1).toNat = p.entry.length from by omega])⟩
  case round =>
    obtain ⟨m, h1, h2, rfl, HT⟩ := hrel
    by_cases h0 : 0 ≤ m
    · obtain ⟨j, rfl⟩ : ∃ j : Nat, m = (j : Int) := ⟨m.toNat, by omega⟩
      have hlt : j < p.entry.length := by omega
      obtain ⟨b, off, rfl, hcell⟩ := rd_int RD.out hlt
      have hbl := cell_lt hcell
      have hg := getD_get hlt 0
      have S : Hid (procE p.entry a p.entry.length = if p.entry[j] ≤ a then (j : Int) else procE p.entry a j) := Lib.hid (by
        rw [HT.out, show ((j : Int) + 1).toNat = j + 1 from by omega, procE, hg])
      clear hg h0
      by_cases e : p.entry[j] ≤ a
      · go_wp2_with fail
        go_ret
        exact ⟨ret_int (by rw [S.out, if_pos e]), (by repeat' (first | exact Below.refl _ _ | exact Nat.le_refl _ | (refine Below.alloc ?_ ?_ _) | (refine Below.setCell ?_ ?_ _) | (refine Below.drew ?_) | (refine below_drewN ?_ _) | assumption | (simp; done) | (simp; omega)))⟩
      · have e' : a < p.entry[j] := by omega
        have E := Lib.hid e
        clear e
        go_wp2_with fail
        go_round
        case rel => exact ⟨(j : Int) - 1, by omega, by omega, rfl, Lib.hid (by rw [S.out, if_neg E.out, show ((j : Int) - 1 + 1).toNat = j from by omega])⟩
        case measure => simp [intOf]
    · have e : m = -1 := by omega
      have S : Hid (procE p.entry a p.entry.length = -1) := Lib.hid (by rw [HT.out, e]; rfl)
      clear e
      go_wp2_with fail
      go_ret
      exact ⟨ret_int S.out.symm, (by repeat' (first | exact Below.refl _ _ | exact Nat.le_refl _ | (refine Below.alloc ?_ ?_ _) | (refine Below.setCell ?_ ?_ _) | (refine Below.drew ?_) | (refine below_drewN ?_ _) | assumption | (simp; done) | (simp; omega)))⟩
set_option maxHeartbeats 800000 in
theorem spec_l08End (p : Cd) (x : V5) (w : World) (hp : CdIs w x p) (a : Int) (h1 : -1 ≤ a) (h2 : a < (p.entry.length : Int)) (hn : ∀ i, i < p.entry.length → 0 ≤ p.entry.getD i 0) :
    Calls Tryd.prog 203 #[x.val p, .int .i64 a] w fun e w' => e = .returned (.int .i64 (endE p.entry p.ins.length a)) ∧ Below w.heap.size w w' := by
  obtain ⟨gA, gc, lA, lc, pA, pc, eA, ec, iA, ic⟩ := x
  have RD := Lib.hid hp.e3
  have hl := hp.e1
  have hc := hp.e2
  have hil := hp.i1
  have hic := hp.i2
  have HE := Lib.hid hp.e4
  simp only at hl hc hil hic
  unfold maxLen at hc hic
  unfold V5.val
  simp only
  clear hp
  by_cases h : a + 1 < (p.entry.length : Int)
  · obtain ⟨j, hj⟩ : ∃ j : Nat, a + 1 = (j : Int) := ⟨(a + 1).toNat, by omega⟩
    have hlt : j < p.entry.length := by omega
    obtain ⟨b, off, rfl, hcell⟩ := rd_int RD.out hlt
    have hbl := cell_lt hcell
    have S : Hid (endE p.entry p.ins.length a = p.entry[j] - 1) := Lib.hid (by unfold endE; rw [if_pos h, hj, Int.toNat_natCast, getD_get hlt])
    have hz : 0 ≤ p.entry[j] := by have := hn j hlt; rwa [getD_get hlt] at this
    have hz2 := (HE.out p.entry[j] (List.getElem_mem hlt)).2
    have ej : a = (j : Int) - 1 := by omega
    subst ej
    clear hj hn
    have w1 : IntKind.i64.wrap ((j : Int) - 1 + 1) = (j : Int) := by rw [Int.sub_add_cancel]; exact IntWalk.i64_in _ (by omega)
    have e1 : (j : Int) - 1 + 1 = (j : Int) := by omega
    go_enter Tryd.func203, Tryd.ntmps203
    go_wp2_with fail
    go_ret
    exact ⟨ret_int S.out.symm, (by repeat' (first | exact Below.refl _ _ | exact Nat.le_refl _ | (refine Below.alloc ?_ ?_ _) | (refine Below.setCell ?_ ?_ _) | (refine Below.drew ?_) | (refine below_drewN ?_ _) | assumption | (simp; done) | (simp; omega)))⟩
  · have S : Hid (endE p.entry p.ins.length a = (p.ins.length : Int) - 1) := Lib.hid (by unfold endE; rw [if_neg h])
    go_enter Tryd.func203, Tryd.ntmps203
    go_wp2_with fail
    go_ret
    exact ⟨ret_int S.out.symm, (by repeat' (first | exact Below.refl _ _ | exact Nat.le_refl _ | (refine Below.alloc ?_ ?_ _) | (refine Below.setCell ?_ ?_ _) | (refine Below.drew ?_) | (refine below_drewN ?_ _) | assumption | (simp; done) | (simp; omega)))⟩
end Go.Proofs.YtefcdpkficojgaaDoor
