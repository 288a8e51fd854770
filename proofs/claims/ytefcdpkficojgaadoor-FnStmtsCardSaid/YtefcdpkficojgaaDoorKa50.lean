/- Several texts in one: StOkLaw. -/
import Derived.Test.YtefcdpkficojgaaDoorKa36
import Derived.Test.YtefcdpkficojgaaDoorKa34
import Derived.Test.YtefcdpkficojgaaDoorKa27
namespace Go.Proofs.YtefcdpkficojgaaDoor
open Go.RowKit
set_option linter.unusedVariables false


theorem stRow1 {F : Nat → Prop} {w w2 : World} {x : V8} {g : St} (h : StIs AnyB w x g) (hb : Below w.heap.size w w2) (hF : ∀ b, b < w.heap.size → F b) {b : Nat} (hc : BoxB w2 b x.cells) (hFb : F b) : StRow F w2 (some ⟨b, 0, none⟩) [g] :=
  ⟨[x], rfl, ⟨by simp [v8_len], fun _ => ⟨b, 0, rfl, fun j u hu => by rw [Nat.zero_add]; exact hc j u (by simpa using hu)⟩⟩,
    fun b' off e _ => by injection e with e; injection e with e1; subst e1; exact hFb,
    fun i h1 h2 => by
      have : i = 0 := by simp at h1; omega
      subst this
      exact h.keep (fun _ hp _ => hb.cell hp) (fun b hb' _ => hF b hb')⟩
theorem totGs_one (g : St) : totGs [g] = totG g + 1 := by rw [totGs, totGs]; omega
set_option maxHeartbeats 800000 in
theorem spec_l04Ok (l : List St) (A : Option Addr) (c : Nat) (w : World) (row : StRow AnyB w A l) (hl : l.length ≤ c) (hc : c ≤ maxLen) (htot : totGs l ≤ 1048577) :
    Calls Tryd.prog 137 #[.slice A l.length c] w fun e w' => e = .returned (.bool (fitGs 6 60 l)) ∧ Below w.heap.size w w' := by
  have RW := Lib.hid row
  clear row
  by_cases h : snodess l ≤ 60
  · have HC := Lib.hid (cut0_pos (n := 60 - (snodess l : Int)) (by omega))
    have hd : decide ((60 : Int) - (snodess l : Int) ≥ 0) = true := decide_eq_true (by omega)
    have HF : Hid (fitGs 6 60 l = rightGs 6 l) := Lib.hid (by unfold fitGs; rw [decide_eq_true h, Bool.and_true])
    have hge : (0 : Int) ≤ 60 - (snodess l : Int) := by omega
    go_enter Tryd.func137, Tryd.ntmps137
    go_wp2_with fail
    refine (spec_l04Count l A c 60 _ RW.out hl hc (by omega) (by omega)).mono ?_
    rintro e w1 ⟨rfl, q1⟩
    have B1 := Lib.hid q1.below
    rw [HC.out]
    clear q1
    go_wp2_with fail
    refine (spec_l04Right l A c 6 _ (RW.out.belowA B1.out) hl hc htot (by omega)).mono ?_
    rintro e w2 ⟨rfl, b2⟩
    have B2 := Lib.hid (below_then B1.out b2)
    clear b2
    go_wp2_with fail
    go_ret
    exact ⟨ret_bool HF.out.symm, B2.out⟩
  · have HC := Lib.hid (cut0_neg (n := 60 - (snodess l : Int)) (by omega))
    have HF : Hid (fitGs 6 60 l = false) := Lib.hid (fit_no2 (by omega))
    go_enter Tryd.func137, Tryd.ntmps137
    go_wp2_with fail
    refine (spec_l04Count l A c 60 _ RW.out hl hc (by omega) (by omega)).mono ?_
    rintro e w1 ⟨rfl, q1⟩
    have B1 := Lib.hid q1.below
    rw [HC.out]
    clear q1
    go_wp2_with fail
    go_ret
    exact ⟨ret_bool HF.out.symm, B1.out⟩
set_option maxHeartbeats 800000 in
theorem spec_StmtOk (g : St) (x : V8) (w : World) (hg : StIs AnyB w x g) (htot : totGs [g] ≤ 1048577) :
    Calls Tryd.prog 65 #[.agg #[.int .i64 x.k, .string x.s, .int .i64 x.tk, .int .i64 x.tn, .string x.ts, .slice x.tA x.tm x.tc, .slice x.bA x.bm x.bc, .slice x.eA x.em x.ec]] w fun e w' => e = .returned (.bool (fitGs 6 60 [g])) ∧ Below w.heap.size w w' := by
  have HG := Lib.hid hg
  clear hg
  go_enter Tryd.func65, Tryd.ntmps65
  go_wp2_with fail
  refine (spec_l04Ok [g] (some ⟨w.heap.size + 1, 0, none⟩) 1 _ (stRow1 HG.out (by repeat' (first | exact Below.refl _ _ | exact Nat.le_refl _ | (refine Below.alloc ?_ ?_ _) | (refine Below.setCell ?_ ?_ _) | (refine Below.drew ?_) | (refine below_drewN ?_ _) | assumption | (simp; done) | (simp; omega))) (fun _ _ => trivial) (BoxB.lit (by simp)) trivial) (by simp) (by simp [maxLen]) htot).mono ?_
  rintro e w1 ⟨rfl, b1⟩
  have B1 : Hid (Below w.heap.size w w1) := Lib.hid (Below.trans (by repeat' (first | exact Below.refl _ _ | exact Nat.le_refl _ | (refine Below.alloc ?_ ?_ _) | (refine Below.setCell ?_ ?_ _) | (refine Below.drew ?_) | (refine below_drewN ?_ _) | assumption | (simp; done) | (simp; omega))) (b1.mono (by simp; omega)))
  clear b1
  go_wp2_with fail
  go_ret
  exact ⟨rfl, B1.out⟩
set_option maxHeartbeats 800000 in
theorem impl_StmtOk (g : St) (x : V8) (w : World) (hg : StIs AnyB w x g) (htot : totGs [g] ≤ 1048577) :
    Calls Tryd.prog 68 #[.agg #[.int .i64 x.k, .string x.s, .int .i64 x.tk, .int .i64 x.tn, .string x.ts, .slice x.tA x.tm x.tc, .slice x.bA x.bm x.bc, .slice x.eA x.em x.ec]] w fun e w' => e = .returned (.bool (fitGs 6 60 [g])) ∧ Below w.heap.size w w' := by
  have HG := Lib.hid hg
  clear hg
  go_enter Tryd.func68, Tryd.ntmps68
  go_wp2_with fail
  refine (impl_stmtsFit [g] (some ⟨w.heap.size + 1 + 1, 0, none⟩) 1 6 60 (w.heap.size + 1) _ (stRow1 HG.out (by repeat' (first | exact Below.refl _ _ | exact Nat.le_refl _ | (refine Below.alloc ?_ ?_ _) | (refine Below.setCell ?_ ?_ _) | (refine Below.drew ?_) | (refine below_drewN ?_ _) | assumption | (simp; done) | (simp; omega))) (fun b hb => by omega) (BoxB.lit (by simp)) (by show w.heap.size + 1 + 1 ≠ w.heap.size + 1; omega)) (by simp) (by simp [maxLen]) htot (by omega) (by omega) ?_).mono ?_
  · refine room_alloc ?_ _
    have := heap_alloc_new (w.alloc (.cells #[.int .i64 x.k, .string x.s, .int .i64 x.tk, .int .i64 x.tn, .string x.ts, .slice x.tA x.tm x.tc, .slice x.bA x.bm x.bc, .slice x.eA x.em x.ec] 104)) (.cells #[.int .i64 60] 3)
    rw [show (w.alloc (.cells #[.int .i64 x.k, .string x.s, .int .i64 x.tk, .int .i64 x.tn, .string x.ts, .slice x.tA x.tm x.tc, .slice x.bA x.bm x.bc, .slice x.eA x.em x.ec] 104)).heap.size = w.heap.size + 1 from by simp] at this
    exact this
  rintro e w1 ⟨rfl, k1, _⟩
  have B1 : Hid (Below w.heap.size w w1) := Lib.hid (Below.trans (by repeat' (first | exact Below.refl _ _ | exact Nat.le_refl _ | (refine Below.alloc ?_ ?_ _) | (refine Below.setCell ?_ ?_ _) | (refine Below.drew ?_) | (refine below_drewN ?_ _) | assumption | (simp; done) | (simp; omega))) (k1.below (by simp; omega) (fun b hb => by omega)))
  clear k1
  go_wp2_with fail
  go_ret
  exact ⟨rfl, B1.out⟩
end Go.Proofs.YtefcdpkficojgaaDoor
