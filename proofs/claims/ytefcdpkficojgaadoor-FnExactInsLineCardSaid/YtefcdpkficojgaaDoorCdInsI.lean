/- The program's insRight: whether an instruction is right, one walk for each operation. -/
import Derived.Test.YtefcdpkficojgaaDoorCdImpl
import Derived.Test.YtefcdpkficojgaaDoorCdInsS
namespace Go.Proofs.YtefcdpkficojgaaDoor
open Go.RowKit
set_option linter.unusedVariables false

theorem arg_bad {p : Cd} {x : Ic} {b l : Int} (h : ¬ (0 ≤ x.arg ∧ x.arg < argM p x.op)) : insB p x b l = false := by
  refine insB_arg ?_
  rw [argM_most] at h
  unfold inB
  by_cases h0 : 0 ≤ x.arg
  · rw [decide_no (by omega : ¬ x.arg ≤ mostC p x.op), Bool.and_false]
  · rw [decide_no h0]; rfl
theorem arg_good {p : Cd} {x : Ic} (h0 : 0 ≤ x.arg) (h : x.arg < argM p x.op) : inB x.arg 0 (mostC p x.op) = true := by
  rw [argM_most] at h
  unfold inB
  rw [decide_eq_true h0, decide_eq_true (by omega)]; rfl
theorem op_bad {p : Cd} {x : Ic} {b l : Int} (h : x.op < 1 ∨ 9 < x.op) : insB p x b l = false := by
  refine insB_op ?_
  unfold inB
  rcases h with h | h
  · rw [decide_no (by omega : ¬ 1 ≤ x.op)]; rfl
  · rw [decide_no (by omega : ¬ x.op ≤ 9), Bool.and_false]
theorem op_good {x : Ic} (h1 : ¬ x.op < 1) (h2 : ¬ 9 < x.op) : inB x.op 1 9 = true := by
  unfold inB; rw [decide_eq_true (by omega), decide_eq_true (by omega)]; rfl
theorem inBi_yes {a b c : Int} (h1 : b ≤ a) (h2 : a ≤ c) : inB a b c = true := by unfold inB; rw [decide_eq_true h1, decide_eq_true h2]; rfl
theorem inBi_no {a b c : Int} (h : ¬ (b ≤ a ∧ a ≤ c)) : inB a b c = false := by
  unfold inB
  by_cases h1 : b ≤ a
  · rw [decide_no (by omega : ¬ a ≤ c), Bool.and_false]
  · rw [decide_no h1]; rfl
set_option maxHeartbeats 3200000 in
set_option maxRecDepth 100000 in
theorem impl_insRight_1 (p : Cd) (x : V5) (i : Ic) (y : V7) (b0 e0 : Int) (w : World) (hp : CdIs w x p) (hI : IcIs AnyB w y i) (hop : i.op = 1) (htt : totT i.term ≤ 1048576) :
    Calls Tryd.prog 163 #[x.val p, .agg #[.int .i64 y.op, .int .i64 y.arg, .int .i64 y.k, .int .i64 y.n, .string y.s, .slice y.A y.m y.c, .int .i64 y.to], .int .i64 b0, .int .i64 e0] w fun e w' => e = .returned (.bool (insB p i b0 (e0 - 1))) ∧ Below w.heap.size w w' := by
  obtain ⟨gA, gc, lA, lc, pA, pc, eA, ec, iA, ic⟩ := x
  obtain ⟨yo, ya, yk, yn, ys, yA, ym, yc, yt⟩ := y
  have HP := Lib.hid hp
  obtain ⟨ho, ha, hto, _, _, _, hT⟩ := hI
  simp only [V7.term] at ho ha hto hT
  have HT := Lib.hid hT
  have hnd : nodes i.term ≤ 10000000 := by have := nodes_tot i.term; omega
  clear hT hp htt
  subst ha hto
  unfold V5.val
  simp only
  have hopH := Lib.hid hop
  rw [hop] at ho
  subst ho
  have AM : Hid (argM p i.op = argM p 1) := Lib.hid (by rw [hop])
  have Q1 : Hid (inB i.op 1 9 = true) := Lib.hid (by rw [hop]; rfl)
  clear hop
  have B0 : Hid (Below w.heap.size w ((w.alloc (.cells #[.slice gA p.globals.length gc, .slice lA p.locks.length lc, .slice pA p.procs.length pc, .slice eA p.entry.length ec, .slice iA p.ins.length ic] 59)).alloc (.cells #[.int .i64 1, .int .i64 i.arg, .int .i64 yk, .int .i64 yn, .string ys, .slice yA ym yc, .int .i64 i.to] 130))) := Lib.hid (by repeat' (first | exact Below.refl _ _ | exact Nat.le_refl _ | (refine Below.alloc ?_ ?_ _) | (refine Below.setCell ?_ ?_ _) | (refine Below.drew ?_) | (refine below_drewN ?_ _) | assumption | (simp; done) | (simp; omega)))
  have BX0 : Hid (Box5 ((w.alloc (.cells #[.slice gA p.globals.length gc, .slice lA p.locks.length lc, .slice pA p.procs.length pc, .slice eA p.entry.length ec, .slice iA p.ins.length ic] 59)).alloc (.cells #[.int .i64 1, .int .i64 i.arg, .int .i64 yk, .int .i64 yn, .string ys, .slice yA ym yc, .int .i64 i.to] 130)) w.heap.size ⟨gA, gc, lA, lc, pA, pc, eA, ec, iA, ic⟩ p) := Lib.hid ((Box5.new w ⟨gA, gc, lA, lc, pA, pc, eA, ec, iA, ic⟩ p _).below (Below.alloc (Below.refl _ _) (Nat.le_refl _) _))
  have CX0 : Hid (Cells7 ((w.alloc (.cells #[.slice gA p.globals.length gc, .slice lA p.locks.length lc, .slice pA p.procs.length pc, .slice eA p.entry.length ec, .slice iA p.ins.length ic] 59)).alloc (.cells #[.int .i64 1, .int .i64 i.arg, .int .i64 yk, .int .i64 yn, .string ys, .slice yA ym yc, .int .i64 i.to] 130)) (w.heap.size + 1) 0 ⟨1, i.arg, yk, yn, ys, yA, ym, yc, i.to⟩) := Lib.hid (by
    have := Cells7.new (w.alloc (.cells #[.slice gA p.globals.length gc, .slice lA p.locks.length lc, .slice pA p.procs.length pc, .slice eA p.entry.length ec, .slice iA p.ins.length ic] 59)) ⟨1, i.arg, yk, yn, ys, yA, ym, yc, i.to⟩ 130
    rwa [World.size_alloc] at this)
  by_cases l3 : i.arg < 0
  · have l3' : decide (i.arg < 0) = true := decide_eq_true l3
    have F : Hid (insB p i b0 (e0 - 1) = false) := Lib.hid (arg_bad (by omega))
    go_enter Tryd.func163, Tryd.ntmps163
    go_wp2_with fail
    refine wp_region_later (by kernel_rfl) (by kernel_rfl) ?_
    intro gw hgw hcw
    have HG := Lib.hid hgw
    have HC := Lib.hid hcw
    clear hgw hcw
    have P := Lib.hid (fun n => BX0.out.below (HG.out n))
    have C := Lib.hid (fun n => CX0.out.below (HG.out n))
    have p0 : ∀ n, (gw n).cell? ⟨w.heap.size, 0, none⟩ = some (.slice gA p.globals.length gc) := fun n => (P.out n).1
    have p1 : ∀ n, (gw n).cell? ⟨w.heap.size, 1, none⟩ = some (.slice lA p.locks.length lc) := fun n => (P.out n).2.1
    have p2 : ∀ n, (gw n).cell? ⟨w.heap.size, 2, none⟩ = some (.slice pA p.procs.length pc) := fun n => (P.out n).2.2.1
    have p3 : ∀ n, (gw n).cell? ⟨w.heap.size, 3, none⟩ = some (.slice eA p.entry.length ec) := fun n => (P.out n).2.2.2.1
    have p4 : ∀ n, (gw n).cell? ⟨w.heap.size, 4, none⟩ = some (.slice iA p.ins.length ic) := fun n => (P.out n).2.2.2.2
    have r0 : ∀ n, (gw n).cell? ⟨w.heap.size + 1, 0, none⟩ = some (.int .i64 1) := fun n => (C.out n).1
    have r1 : ∀ n, (gw n).cell? ⟨w.heap.size + 1, 1, none⟩ = some (.int .i64 i.arg) := fun n => (C.out n).2.1
    have r2 : ∀ n, (gw n).cell? ⟨w.heap.size + 1, 2, none⟩ = some (.int .i64 yk) := fun n => (C.out n).2.2.1
    have r3 : ∀ n, (gw n).cell? ⟨w.heap.size + 1, 3, none⟩ = some (.int .i64 yn) := fun n => (C.out n).2.2.2.1
    have r4 : ∀ n, (gw n).cell? ⟨w.heap.size + 1, 4, none⟩ = some (.string ys) := fun n => (C.out n).2.2.2.2.1
    have r5 : ∀ n, (gw n).cell? ⟨w.heap.size + 1, 5, none⟩ = some (.slice yA ym yc) := fun n => (C.out n).2.2.2.2.2.1
    have r6 : ∀ n, (gw n).cell? ⟨w.heap.size + 1, 6, none⟩ = some (.int .i64 i.to) := fun n => (C.out n).2.2.2.2.2.2
    repeat (go_big_quiet_step ((first | (go_at_call 209; exact later_of HC (impl_argMost p ⟨gA, gc, lA, lc, pA, pc, eA, ec, iA, ic⟩ _ (HP.out.belowA (below_then B0.out (HG.out _))) _)))))
    refine wpQuiet_nil ?_
    intro _ hw'
    obtain ⟨nq, hw''⟩ := hw'
    subst hw''
    go_wp2_with fail
    go_ret
    exact ⟨ret_bool F.out.symm, below_then B0.out (HG.out _)⟩
  have l3' : decide (i.arg < 0) = false := decide_no l3
  by_cases l4 : argM p 1 ≤ i.arg
  · have l4' : decide (argM p 1 ≤ i.arg) = true := decide_eq_true l4
    have F : Hid (insB p i b0 (e0 - 1) = false) := Lib.hid (arg_bad (by rw [AM.out]; omega))
    go_enter Tryd.func163, Tryd.ntmps163
    go_wp2_with fail
    refine wp_region_later (by kernel_rfl) (by kernel_rfl) ?_
    intro gw hgw hcw
    have HG := Lib.hid hgw
    have HC := Lib.hid hcw
    clear hgw hcw
    have P := Lib.hid (fun n => BX0.out.below (HG.out n))
    have C := Lib.hid (fun n => CX0.out.below (HG.out n))
    have p0 : ∀ n, (gw n).cell? ⟨w.heap.size, 0, none⟩ = some (.slice gA p.globals.length gc) := fun n => (P.out n).1
    have p1 : ∀ n, (gw n).cell? ⟨w.heap.size, 1, none⟩ = some (.slice lA p.locks.length lc) := fun n => (P.out n).2.1
    have p2 : ∀ n, (gw n).cell? ⟨w.heap.size, 2, none⟩ = some (.slice pA p.procs.length pc) := fun n => (P.out n).2.2.1
    have p3 : ∀ n, (gw n).cell? ⟨w.heap.size, 3, none⟩ = some (.slice eA p.entry.length ec) := fun n => (P.out n).2.2.2.1
    have p4 : ∀ n, (gw n).cell? ⟨w.heap.size, 4, none⟩ = some (.slice iA p.ins.length ic) := fun n => (P.out n).2.2.2.2
    have r0 : ∀ n, (gw n).cell? ⟨w.heap.size + 1, 0, none⟩ = some (.int .i64 1) := fun n => (C.out n).1
    have r1 : ∀ n, (gw n).cell? ⟨w.heap.size + 1, 1, none⟩ = some (.int .i64 i.arg) := fun n => (C.out n).2.1
    have r2 : ∀ n, (gw n).cell? ⟨w.heap.size + 1, 2, none⟩ = some (.int .i64 yk) := fun n => (C.out n).2.2.1
    have r3 : ∀ n, (gw n).cell? ⟨w.heap.size + 1, 3, none⟩ = some (.int .i64 yn) := fun n => (C.out n).2.2.2.1
    have r4 : ∀ n, (gw n).cell? ⟨w.heap.size + 1, 4, none⟩ = some (.string ys) := fun n => (C.out n).2.2.2.2.1
    have r5 : ∀ n, (gw n).cell? ⟨w.heap.size + 1, 5, none⟩ = some (.slice yA ym yc) := fun n => (C.out n).2.2.2.2.2.1
    have r6 : ∀ n, (gw n).cell? ⟨w.heap.size + 1, 6, none⟩ = some (.int .i64 i.to) := fun n => (C.out n).2.2.2.2.2.2
    repeat (go_big_quiet_step ((first | (go_at_call 209; exact later_of HC (impl_argMost p ⟨gA, gc, lA, lc, pA, pc, eA, ec, iA, ic⟩ _ (HP.out.belowA (below_then B0.out (HG.out _))) _)))))
    refine wpQuiet_nil ?_
    intro _ hw'
    obtain ⟨nq, hw''⟩ := hw'
    subst hw''
    go_wp2_with fail
    go_ret
    exact ⟨ret_bool F.out.symm, below_then B0.out (HG.out _)⟩
  have l4' : decide (argM p 1 ≤ i.arg) = false := decide_no l4
  have Q2 : Hid (inB i.arg 0 (mostC p i.op) = true) := Lib.hid (arg_good (by omega) (by rw [AM.out]; omega))
  cases h3 : okT 6 i.term with
  | false =>
    have F : Hid (insB p i b0 (e0 - 1) = false) := Lib.hid (insB_trm (trmB_bad (by rw [hopH.out]; simp) h3))
    have H3 := Lib.hid h3
    clear h3
    go_enter Tryd.func163, Tryd.ntmps163
    go_wp2_with fail
    refine wp_region_later (by kernel_rfl) (by kernel_rfl) ?_
    intro gw hgw hcw
    have HG := Lib.hid hgw
    have HC := Lib.hid hcw
    clear hgw hcw
    have P := Lib.hid (fun n => BX0.out.below (HG.out n))
    have C := Lib.hid (fun n => CX0.out.below (HG.out n))
    have p0 : ∀ n, (gw n).cell? ⟨w.heap.size, 0, none⟩ = some (.slice gA p.globals.length gc) := fun n => (P.out n).1
    have p1 : ∀ n, (gw n).cell? ⟨w.heap.size, 1, none⟩ = some (.slice lA p.locks.length lc) := fun n => (P.out n).2.1
    have p2 : ∀ n, (gw n).cell? ⟨w.heap.size, 2, none⟩ = some (.slice pA p.procs.length pc) := fun n => (P.out n).2.2.1
    have p3 : ∀ n, (gw n).cell? ⟨w.heap.size, 3, none⟩ = some (.slice eA p.entry.length ec) := fun n => (P.out n).2.2.2.1
    have p4 : ∀ n, (gw n).cell? ⟨w.heap.size, 4, none⟩ = some (.slice iA p.ins.length ic) := fun n => (P.out n).2.2.2.2
    have r0 : ∀ n, (gw n).cell? ⟨w.heap.size + 1, 0, none⟩ = some (.int .i64 1) := fun n => (C.out n).1
    have r1 : ∀ n, (gw n).cell? ⟨w.heap.size + 1, 1, none⟩ = some (.int .i64 i.arg) := fun n => (C.out n).2.1
    have r2 : ∀ n, (gw n).cell? ⟨w.heap.size + 1, 2, none⟩ = some (.int .i64 yk) := fun n => (C.out n).2.2.1
    have r3 : ∀ n, (gw n).cell? ⟨w.heap.size + 1, 3, none⟩ = some (.int .i64 yn) := fun n => (C.out n).2.2.2.1
    have r4 : ∀ n, (gw n).cell? ⟨w.heap.size + 1, 4, none⟩ = some (.string ys) := fun n => (C.out n).2.2.2.2.1
    have r5 : ∀ n, (gw n).cell? ⟨w.heap.size + 1, 5, none⟩ = some (.slice yA ym yc) := fun n => (C.out n).2.2.2.2.2.1
    have r6 : ∀ n, (gw n).cell? ⟨w.heap.size + 1, 6, none⟩ = some (.int .i64 i.to) := fun n => (C.out n).2.2.2.2.2.2
    repeat (go_big_quiet_step ((first | (go_at_call 209; exact later_of HC (impl_argMost p ⟨gA, gc, lA, lc, pA, pc, eA, ec, iA, ic⟩ _ (HP.out.belowA (below_then B0.out (HG.out _))) _)))))
    refine wpQuiet_nil ?_
    intro _ hw'
    obtain ⟨nq, hw''⟩ := hw'
    subst hw''
    go_wp2_with fail
    refine (impl_TermOk i.term yk yn ys yA ym yc _ (HT.out.belowA (below_then B0.out (HG.out _)))).mono ?_
    rintro e w1 ⟨rfl, b1⟩
    have BB : Hid (Below w.heap.size w w1) := Lib.hid (below_then (below_then B0.out (HG.out _)) b1)
    have BX := Lib.hid ((P.out _).below b1)
    have CX := Lib.hid ((C.out _).below b1)
    rw [H3.out]
    clear b1 p0 p1 p2 p3 p4 r0 r1 r2 r3 r4 r5 r6
    go_wp2_with fail
    go_ret
    exact ⟨ret_bool F.out.symm, BB.out⟩
  | true =>
  have H3 := Lib.hid h3
  clear h3
  go_enter Tryd.func163, Tryd.ntmps163
  go_wp2_with fail
  refine wp_region_later (by kernel_rfl) (by kernel_rfl) ?_
  intro gw hgw hcw
  have HG := Lib.hid hgw
  have HC := Lib.hid hcw
  clear hgw hcw
  have P := Lib.hid (fun n => BX0.out.below (HG.out n))
  have C := Lib.hid (fun n => CX0.out.below (HG.out n))
  have p0 : ∀ n, (gw n).cell? ⟨w.heap.size, 0, none⟩ = some (.slice gA p.globals.length gc) := fun n => (P.out n).1
  have p1 : ∀ n, (gw n).cell? ⟨w.heap.size, 1, none⟩ = some (.slice lA p.locks.length lc) := fun n => (P.out n).2.1
  have p2 : ∀ n, (gw n).cell? ⟨w.heap.size, 2, none⟩ = some (.slice pA p.procs.length pc) := fun n => (P.out n).2.2.1
  have p3 : ∀ n, (gw n).cell? ⟨w.heap.size, 3, none⟩ = some (.slice eA p.entry.length ec) := fun n => (P.out n).2.2.2.1
  have p4 : ∀ n, (gw n).cell? ⟨w.heap.size, 4, none⟩ = some (.slice iA p.ins.length ic) := fun n => (P.out n).2.2.2.2
  have r0 : ∀ n, (gw n).cell? ⟨w.heap.size + 1, 0, none⟩ = some (.int .i64 1) := fun n => (C.out n).1
  have r1 : ∀ n, (gw n).cell? ⟨w.heap.size + 1, 1, none⟩ = some (.int .i64 i.arg) := fun n => (C.out n).2.1
  have r2 : ∀ n, (gw n).cell? ⟨w.heap.size + 1, 2, none⟩ = some (.int .i64 yk) := fun n => (C.out n).2.2.1
  have r3 : ∀ n, (gw n).cell? ⟨w.heap.size + 1, 3, none⟩ = some (.int .i64 yn) := fun n => (C.out n).2.2.2.1
  have r4 : ∀ n, (gw n).cell? ⟨w.heap.size + 1, 4, none⟩ = some (.string ys) := fun n => (C.out n).2.2.2.2.1
  have r5 : ∀ n, (gw n).cell? ⟨w.heap.size + 1, 5, none⟩ = some (.slice yA ym yc) := fun n => (C.out n).2.2.2.2.2.1
  have r6 : ∀ n, (gw n).cell? ⟨w.heap.size + 1, 6, none⟩ = some (.int .i64 i.to) := fun n => (C.out n).2.2.2.2.2.2
  repeat (go_big_quiet_step ((first | (go_at_call 209; exact later_of HC (impl_argMost p ⟨gA, gc, lA, lc, pA, pc, eA, ec, iA, ic⟩ _ (HP.out.belowA (below_then B0.out (HG.out _))) _)))))
  refine wpQuiet_nil ?_
  intro _ hw'
  obtain ⟨nq, hw''⟩ := hw'
  subst hw''
  go_wp2_with fail
  refine (impl_TermOk i.term yk yn ys yA ym yc _ (HT.out.belowA (below_then B0.out (HG.out _)))).mono ?_
  rintro e w1 ⟨rfl, b1⟩
  have BB : Hid (Below w.heap.size w w1) := Lib.hid (below_then (below_then B0.out (HG.out _)) b1)
  have BX := Lib.hid ((P.out _).below b1)
  have CX := Lib.hid ((C.out _).below b1)
  rw [H3.out]
  clear b1 p0 p1 p2 p3 p4 r0 r1 r2 r3 r4 r5 r6
  obtain ⟨p0, p1, p2, p3, p4⟩ := BX.out
  obtain ⟨r0, r1, r2, r3, r4, r5, r6⟩ := CX.out
  simp only at p0 p1 p2 p3 p4 r0 r1 r2 r3 r4 r5 r6
  go_wp2_with fail
  refine (impl_ReadsOf i.term yk yn ys yA ym yc _ (HT.out.belowA BB.out) hnd).mono ?_
  rintro e w2 ⟨v2, rfl, own2⟩
  obtain ⟨A2, c2, rfl, hc2⟩ := own2.slice
  have hm2 := own_cap' own2
  unfold maxLen at hm2
  have RD2 := Lib.hid own2.rd
  have B2 := Lib.hid (below_then BB.out own2.2)
  have X2 := Lib.hid (BX.out.below own2.2)
  have C2 := Lib.hid (CX.out.below own2.2)
  clear own2 p0 p1 p2 p3 p4 r0 r1 r2 r3 r4 r5 r6 BB BX CX
  have BB := B2
  have BX := X2
  have CX := C2
  clear B2 X2 C2
  obtain ⟨p0, p1, p2, p3, p4⟩ := BX.out
  obtain ⟨r0, r1, r2, r3, r4, r5, r6⟩ := CX.out
  simp only at p0 p1 p2 p3 p4 r0 r1 r2 r3 r4 r5 r6
  have GS := Lib.hid (HP.out.belowA BB.out).gs
  go_wp2_with fail
  go_loop [49] (fun z => ∃ k : Nat, k ≤ (readsR i.term).length ∧ z = .int .i64 k ∧ Hid (((readsR i.term).take k).all (hasS p.globals) = true)) (fun z => (readsR i.term).length - (intOf z).toNat)
  case atStart => exact ⟨0, Nat.zero_le _, rfl, Lib.hid (by simp)⟩
  case round =>
    obtain ⟨k, hk, rfl, HT⟩ := hrel
    by_cases hlt : k < (readsR i.term).length
    · obtain ⟨rb, roff, rfl, rcell⟩ := rd_str RD2.out hlt
      have h0k : (0 : Int) ≤ (k : Int) := by omega
      have h1k : (k : Int) < ((readsR i.term).length : Int) := by omega
      cases hh : hasS p.globals (readsR i.term)[k] with
      | false =>
        have F : Hid (insB p i b0 (e0 - 1) = false) := Lib.hid (insB_trm (trmB_miss (by rw [hopH.out]; simp) hlt hh))
        have HH := Lib.hid hh
        clear hh
        go_wp2_with (go_at_call 148; refine (slices_Contains _ p.globals _ _ GS.out).mono ?_; rintro e w' ⟨rfl, rfl⟩; rw [HH.out])
        go_ret
        exact ⟨ret_bool F.out.symm, BB.out⟩
      | true =>
        have T := Lib.hid (all_next hlt HT.out hh)
        have HH := Lib.hid hh
        clear hh
        go_wp2_with (go_at_call 148; refine (slices_Contains _ p.globals _ _ GS.out).mono ?_; rintro e w' ⟨rfl, rfl⟩; rw [HH.out])
        go_round
        case rel => exact ⟨k + 1, by omega, by go_num, T⟩
        case measure => simp [intOf]; omega
    · have FIN : Hid (insB p i b0 (e0 - 1) = tgtB i b0 (e0 - 1)) := Lib.hid (insB_fin Q1.out Q2.out (trmB_yes (by rw [hopH.out]; simp) H3.out (by have := HT.out; rwa [List.take_of_length_le (by omega)] at this)))
      clear HT
      have F : Hid (insB p i b0 (e0 - 1) = (i.to == 0)) := Lib.hid (by rw [FIN.out, tgtB_none (by rw [hopH.out]; simp)])
      go_wp2_with fail
      go_ret
      exact ⟨ret_bool F.out.symm, BB.out⟩
set_option maxHeartbeats 3200000 in
set_option maxRecDepth 100000 in
theorem impl_insRight_2 (p : Cd) (x : V5) (i : Ic) (y : V7) (b0 e0 : Int) (w : World) (hp : CdIs w x p) (hI : IcIs AnyB w y i) (hop : i.op = 2) (htt : totT i.term ≤ 1048576) :
    Calls Tryd.prog 163 #[x.val p, .agg #[.int .i64 y.op, .int .i64 y.arg, .int .i64 y.k, .int .i64 y.n, .string y.s, .slice y.A y.m y.c, .int .i64 y.to], .int .i64 b0, .int .i64 e0] w fun e w' => e = .returned (.bool (insB p i b0 (e0 - 1))) ∧ Below w.heap.size w w' := by
  obtain ⟨gA, gc, lA, lc, pA, pc, eA, ec, iA, ic⟩ := x
  obtain ⟨yo, ya, yk, yn, ys, yA, ym, yc, yt⟩ := y
  have HP := Lib.hid hp
  obtain ⟨ho, ha, hto, _, _, _, hT⟩ := hI
  simp only [V7.term] at ho ha hto hT
  have HT := Lib.hid hT
  have hnd : nodes i.term ≤ 10000000 := by have := nodes_tot i.term; omega
  clear hT hp htt
  subst ha hto
  unfold V5.val
  simp only
  have hopH := Lib.hid hop
  rw [hop] at ho
  subst ho
  have AM : Hid (argM p i.op = argM p 2) := Lib.hid (by rw [hop])
  have Q1 : Hid (inB i.op 1 9 = true) := Lib.hid (by rw [hop]; rfl)
  clear hop
  have B0 : Hid (Below w.heap.size w ((w.alloc (.cells #[.slice gA p.globals.length gc, .slice lA p.locks.length lc, .slice pA p.procs.length pc, .slice eA p.entry.length ec, .slice iA p.ins.length ic] 59)).alloc (.cells #[.int .i64 2, .int .i64 i.arg, .int .i64 yk, .int .i64 yn, .string ys, .slice yA ym yc, .int .i64 i.to] 130))) := Lib.hid (by repeat' (first | exact Below.refl _ _ | exact Nat.le_refl _ | (refine Below.alloc ?_ ?_ _) | (refine Below.setCell ?_ ?_ _) | (refine Below.drew ?_) | (refine below_drewN ?_ _) | assumption | (simp; done) | (simp; omega)))
  have BX0 : Hid (Box5 ((w.alloc (.cells #[.slice gA p.globals.length gc, .slice lA p.locks.length lc, .slice pA p.procs.length pc, .slice eA p.entry.length ec, .slice iA p.ins.length ic] 59)).alloc (.cells #[.int .i64 2, .int .i64 i.arg, .int .i64 yk, .int .i64 yn, .string ys, .slice yA ym yc, .int .i64 i.to] 130)) w.heap.size ⟨gA, gc, lA, lc, pA, pc, eA, ec, iA, ic⟩ p) := Lib.hid ((Box5.new w ⟨gA, gc, lA, lc, pA, pc, eA, ec, iA, ic⟩ p _).below (Below.alloc (Below.refl _ _) (Nat.le_refl _) _))
  have CX0 : Hid (Cells7 ((w.alloc (.cells #[.slice gA p.globals.length gc, .slice lA p.locks.length lc, .slice pA p.procs.length pc, .slice eA p.entry.length ec, .slice iA p.ins.length ic] 59)).alloc (.cells #[.int .i64 2, .int .i64 i.arg, .int .i64 yk, .int .i64 yn, .string ys, .slice yA ym yc, .int .i64 i.to] 130)) (w.heap.size + 1) 0 ⟨2, i.arg, yk, yn, ys, yA, ym, yc, i.to⟩) := Lib.hid (by
    have := Cells7.new (w.alloc (.cells #[.slice gA p.globals.length gc, .slice lA p.locks.length lc, .slice pA p.procs.length pc, .slice eA p.entry.length ec, .slice iA p.ins.length ic] 59)) ⟨2, i.arg, yk, yn, ys, yA, ym, yc, i.to⟩ 130
    rwa [World.size_alloc] at this)
  by_cases l3 : i.arg < 0
  · have l3' : decide (i.arg < 0) = true := decide_eq_true l3
    have F : Hid (insB p i b0 (e0 - 1) = false) := Lib.hid (arg_bad (by omega))
    go_enter Tryd.func163, Tryd.ntmps163
    go_wp2_with fail
    refine wp_region_later (by kernel_rfl) (by kernel_rfl) ?_
    intro gw hgw hcw
    have HG := Lib.hid hgw
    have HC := Lib.hid hcw
    clear hgw hcw
    have P := Lib.hid (fun n => BX0.out.below (HG.out n))
    have C := Lib.hid (fun n => CX0.out.below (HG.out n))
    have p0 : ∀ n, (gw n).cell? ⟨w.heap.size, 0, none⟩ = some (.slice gA p.globals.length gc) := fun n => (P.out n).1
    have p1 : ∀ n, (gw n).cell? ⟨w.heap.size, 1, none⟩ = some (.slice lA p.locks.length lc) := fun n => (P.out n).2.1
    have p2 : ∀ n, (gw n).cell? ⟨w.heap.size, 2, none⟩ = some (.slice pA p.procs.length pc) := fun n => (P.out n).2.2.1
    have p3 : ∀ n, (gw n).cell? ⟨w.heap.size, 3, none⟩ = some (.slice eA p.entry.length ec) := fun n => (P.out n).2.2.2.1
    have p4 : ∀ n, (gw n).cell? ⟨w.heap.size, 4, none⟩ = some (.slice iA p.ins.length ic) := fun n => (P.out n).2.2.2.2
    have r0 : ∀ n, (gw n).cell? ⟨w.heap.size + 1, 0, none⟩ = some (.int .i64 2) := fun n => (C.out n).1
    have r1 : ∀ n, (gw n).cell? ⟨w.heap.size + 1, 1, none⟩ = some (.int .i64 i.arg) := fun n => (C.out n).2.1
    have r2 : ∀ n, (gw n).cell? ⟨w.heap.size + 1, 2, none⟩ = some (.int .i64 yk) := fun n => (C.out n).2.2.1
    have r3 : ∀ n, (gw n).cell? ⟨w.heap.size + 1, 3, none⟩ = some (.int .i64 yn) := fun n => (C.out n).2.2.2.1
    have r4 : ∀ n, (gw n).cell? ⟨w.heap.size + 1, 4, none⟩ = some (.string ys) := fun n => (C.out n).2.2.2.2.1
    have r5 : ∀ n, (gw n).cell? ⟨w.heap.size + 1, 5, none⟩ = some (.slice yA ym yc) := fun n => (C.out n).2.2.2.2.2.1
    have r6 : ∀ n, (gw n).cell? ⟨w.heap.size + 1, 6, none⟩ = some (.int .i64 i.to) := fun n => (C.out n).2.2.2.2.2.2
    repeat (go_big_quiet_step ((first | (go_at_call 209; exact later_of HC (impl_argMost p ⟨gA, gc, lA, lc, pA, pc, eA, ec, iA, ic⟩ _ (HP.out.belowA (below_then B0.out (HG.out _))) _)))))
    refine wpQuiet_nil ?_
    intro _ hw'
    obtain ⟨nq, hw''⟩ := hw'
    subst hw''
    go_wp2_with fail
    go_ret
    exact ⟨ret_bool F.out.symm, below_then B0.out (HG.out _)⟩
  have l3' : decide (i.arg < 0) = false := decide_no l3
  by_cases l4 : argM p 2 ≤ i.arg
  · have l4' : decide (argM p 2 ≤ i.arg) = true := decide_eq_true l4
    have F : Hid (insB p i b0 (e0 - 1) = false) := Lib.hid (arg_bad (by rw [AM.out]; omega))
    go_enter Tryd.func163, Tryd.ntmps163
    go_wp2_with fail
    refine wp_region_later (by kernel_rfl) (by kernel_rfl) ?_
    intro gw hgw hcw
    have HG := Lib.hid hgw
    have HC := Lib.hid hcw
    clear hgw hcw
    have P := Lib.hid (fun n => BX0.out.below (HG.out n))
    have C := Lib.hid (fun n => CX0.out.below (HG.out n))
    have p0 : ∀ n, (gw n).cell? ⟨w.heap.size, 0, none⟩ = some (.slice gA p.globals.length gc) := fun n => (P.out n).1
    have p1 : ∀ n, (gw n).cell? ⟨w.heap.size, 1, none⟩ = some (.slice lA p.locks.length lc) := fun n => (P.out n).2.1
    have p2 : ∀ n, (gw n).cell? ⟨w.heap.size, 2, none⟩ = some (.slice pA p.procs.length pc) := fun n => (P.out n).2.2.1
    have p3 : ∀ n, (gw n).cell? ⟨w.heap.size, 3, none⟩ = some (.slice eA p.entry.length ec) := fun n => (P.out n).2.2.2.1
    have p4 : ∀ n, (gw n).cell? ⟨w.heap.size, 4, none⟩ = some (.slice iA p.ins.length ic) := fun n => (P.out n).2.2.2.2
    have r0 : ∀ n, (gw n).cell? ⟨w.heap.size + 1, 0, none⟩ = some (.int .i64 2) := fun n => (C.out n).1
    have r1 : ∀ n, (gw n).cell? ⟨w.heap.size + 1, 1, none⟩ = some (.int .i64 i.arg) := fun n => (C.out n).2.1
    have r2 : ∀ n, (gw n).cell? ⟨w.heap.size + 1, 2, none⟩ = some (.int .i64 yk) := fun n => (C.out n).2.2.1
    have r3 : ∀ n, (gw n).cell? ⟨w.heap.size + 1, 3, none⟩ = some (.int .i64 yn) := fun n => (C.out n).2.2.2.1
    have r4 : ∀ n, (gw n).cell? ⟨w.heap.size + 1, 4, none⟩ = some (.string ys) := fun n => (C.out n).2.2.2.2.1
    have r5 : ∀ n, (gw n).cell? ⟨w.heap.size + 1, 5, none⟩ = some (.slice yA ym yc) := fun n => (C.out n).2.2.2.2.2.1
    have r6 : ∀ n, (gw n).cell? ⟨w.heap.size + 1, 6, none⟩ = some (.int .i64 i.to) := fun n => (C.out n).2.2.2.2.2.2
    repeat (go_big_quiet_step ((first | (go_at_call 209; exact later_of HC (impl_argMost p ⟨gA, gc, lA, lc, pA, pc, eA, ec, iA, ic⟩ _ (HP.out.belowA (below_then B0.out (HG.out _))) _)))))
    refine wpQuiet_nil ?_
    intro _ hw'
    obtain ⟨nq, hw''⟩ := hw'
    subst hw''
    go_wp2_with fail
    go_ret
    exact ⟨ret_bool F.out.symm, below_then B0.out (HG.out _)⟩
  have l4' : decide (argM p 2 ≤ i.arg) = false := decide_no l4
  have Q2 : Hid (inB i.arg 0 (mostC p i.op) = true) := Lib.hid (arg_good (by omega) (by rw [AM.out]; omega))
  cases h3 : okT 6 i.term with
  | false =>
    have F : Hid (insB p i b0 (e0 - 1) = false) := Lib.hid (insB_trm (trmB_bad (by rw [hopH.out]; simp) h3))
    have H3 := Lib.hid h3
    clear h3
    go_enter Tryd.func163, Tryd.ntmps163
    go_wp2_with fail
    refine wp_region_later (by kernel_rfl) (by kernel_rfl) ?_
    intro gw hgw hcw
    have HG := Lib.hid hgw
    have HC := Lib.hid hcw
    clear hgw hcw
    have P := Lib.hid (fun n => BX0.out.below (HG.out n))
    have C := Lib.hid (fun n => CX0.out.below (HG.out n))
    have p0 : ∀ n, (gw n).cell? ⟨w.heap.size, 0, none⟩ = some (.slice gA p.globals.length gc) := fun n => (P.out n).1
    have p1 : ∀ n, (gw n).cell? ⟨w.heap.size, 1, none⟩ = some (.slice lA p.locks.length lc) := fun n => (P.out n).2.1
    have p2 : ∀ n, (gw n).cell? ⟨w.heap.size, 2, none⟩ = some (.slice pA p.procs.length pc) := fun n => (P.out n).2.2.1
    have p3 : ∀ n, (gw n).cell? ⟨w.heap.size, 3, none⟩ = some (.slice eA p.entry.length ec) := fun n => (P.out n).2.2.2.1
    have p4 : ∀ n, (gw n).cell? ⟨w.heap.size, 4, none⟩ = some (.slice iA p.ins.length ic) := fun n => (P.out n).2.2.2.2
    have r0 : ∀ n, (gw n).cell? ⟨w.heap.size + 1, 0, none⟩ = some (.int .i64 2) := fun n => (C.out n).1
    have r1 : ∀ n, (gw n).cell? ⟨w.heap.size + 1, 1, none⟩ = some (.int .i64 i.arg) := fun n => (C.out n).2.1
    have r2 : ∀ n, (gw n).cell? ⟨w.heap.size + 1, 2, none⟩ = some (.int .i64 yk) := fun n => (C.out n).2.2.1
    have r3 : ∀ n, (gw n).cell? ⟨w.heap.size + 1, 3, none⟩ = some (.int .i64 yn) := fun n => (C.out n).2.2.2.1
    have r4 : ∀ n, (gw n).cell? ⟨w.heap.size + 1, 4, none⟩ = some (.string ys) := fun n => (C.out n).2.2.2.2.1
    have r5 : ∀ n, (gw n).cell? ⟨w.heap.size + 1, 5, none⟩ = some (.slice yA ym yc) := fun n => (C.out n).2.2.2.2.2.1
    have r6 : ∀ n, (gw n).cell? ⟨w.heap.size + 1, 6, none⟩ = some (.int .i64 i.to) := fun n => (C.out n).2.2.2.2.2.2
    repeat (go_big_quiet_step ((first | (go_at_call 209; exact later_of HC (impl_argMost p ⟨gA, gc, lA, lc, pA, pc, eA, ec, iA, ic⟩ _ (HP.out.belowA (below_then B0.out (HG.out _))) _)))))
    refine wpQuiet_nil ?_
    intro _ hw'
    obtain ⟨nq, hw''⟩ := hw'
    subst hw''
    go_wp2_with fail
    refine (impl_TermOk i.term yk yn ys yA ym yc _ (HT.out.belowA (below_then B0.out (HG.out _)))).mono ?_
    rintro e w1 ⟨rfl, b1⟩
    have BB : Hid (Below w.heap.size w w1) := Lib.hid (below_then (below_then B0.out (HG.out _)) b1)
    have BX := Lib.hid ((P.out _).below b1)
    have CX := Lib.hid ((C.out _).below b1)
    rw [H3.out]
    clear b1 p0 p1 p2 p3 p4 r0 r1 r2 r3 r4 r5 r6
    go_wp2_with fail
    go_ret
    exact ⟨ret_bool F.out.symm, BB.out⟩
  | true =>
  have H3 := Lib.hid h3
  clear h3
  go_enter Tryd.func163, Tryd.ntmps163
  go_wp2_with fail
  refine wp_region_later (by kernel_rfl) (by kernel_rfl) ?_
  intro gw hgw hcw
  have HG := Lib.hid hgw
  have HC := Lib.hid hcw
  clear hgw hcw
  have P := Lib.hid (fun n => BX0.out.below (HG.out n))
  have C := Lib.hid (fun n => CX0.out.below (HG.out n))
  have p0 : ∀ n, (gw n).cell? ⟨w.heap.size, 0, none⟩ = some (.slice gA p.globals.length gc) := fun n => (P.out n).1
  have p1 : ∀ n, (gw n).cell? ⟨w.heap.size, 1, none⟩ = some (.slice lA p.locks.length lc) := fun n => (P.out n).2.1
  have p2 : ∀ n, (gw n).cell? ⟨w.heap.size, 2, none⟩ = some (.slice pA p.procs.length pc) := fun n => (P.out n).2.2.1
  have p3 : ∀ n, (gw n).cell? ⟨w.heap.size, 3, none⟩ = some (.slice eA p.entry.length ec) := fun n => (P.out n).2.2.2.1
  have p4 : ∀ n, (gw n).cell? ⟨w.heap.size, 4, none⟩ = some (.slice iA p.ins.length ic) := fun n => (P.out n).2.2.2.2
  have r0 : ∀ n, (gw n).cell? ⟨w.heap.size + 1, 0, none⟩ = some (.int .i64 2) := fun n => (C.out n).1
  have r1 : ∀ n, (gw n).cell? ⟨w.heap.size + 1, 1, none⟩ = some (.int .i64 i.arg) := fun n => (C.out n).2.1
  have r2 : ∀ n, (gw n).cell? ⟨w.heap.size + 1, 2, none⟩ = some (.int .i64 yk) := fun n => (C.out n).2.2.1
  have r3 : ∀ n, (gw n).cell? ⟨w.heap.size + 1, 3, none⟩ = some (.int .i64 yn) := fun n => (C.out n).2.2.2.1
  have r4 : ∀ n, (gw n).cell? ⟨w.heap.size + 1, 4, none⟩ = some (.string ys) := fun n => (C.out n).2.2.2.2.1
  have r5 : ∀ n, (gw n).cell? ⟨w.heap.size + 1, 5, none⟩ = some (.slice yA ym yc) := fun n => (C.out n).2.2.2.2.2.1
  have r6 : ∀ n, (gw n).cell? ⟨w.heap.size + 1, 6, none⟩ = some (.int .i64 i.to) := fun n => (C.out n).2.2.2.2.2.2
  repeat (go_big_quiet_step ((first | (go_at_call 209; exact later_of HC (impl_argMost p ⟨gA, gc, lA, lc, pA, pc, eA, ec, iA, ic⟩ _ (HP.out.belowA (below_then B0.out (HG.out _))) _)))))
  refine wpQuiet_nil ?_
  intro _ hw'
  obtain ⟨nq, hw''⟩ := hw'
  subst hw''
  go_wp2_with fail
  refine (impl_TermOk i.term yk yn ys yA ym yc _ (HT.out.belowA (below_then B0.out (HG.out _)))).mono ?_
  rintro e w1 ⟨rfl, b1⟩
  have BB : Hid (Below w.heap.size w w1) := Lib.hid (below_then (below_then B0.out (HG.out _)) b1)
  have BX := Lib.hid ((P.out _).below b1)
  have CX := Lib.hid ((C.out _).below b1)
  rw [H3.out]
  clear b1 p0 p1 p2 p3 p4 r0 r1 r2 r3 r4 r5 r6
  obtain ⟨p0, p1, p2, p3, p4⟩ := BX.out
  obtain ⟨r0, r1, r2, r3, r4, r5, r6⟩ := CX.out
  simp only at p0 p1 p2 p3 p4 r0 r1 r2 r3 r4 r5 r6
  go_wp2_with fail
  refine (impl_ReadsOf i.term yk yn ys yA ym yc _ (HT.out.belowA BB.out) hnd).mono ?_
  rintro e w2 ⟨v2, rfl, own2⟩
  obtain ⟨A2, c2, rfl, hc2⟩ := own2.slice
  have hm2 := own_cap' own2
  unfold maxLen at hm2
  have RD2 := Lib.hid own2.rd
  have B2 := Lib.hid (below_then BB.out own2.2)
  have X2 := Lib.hid (BX.out.below own2.2)
  have C2 := Lib.hid (CX.out.below own2.2)
  clear own2 p0 p1 p2 p3 p4 r0 r1 r2 r3 r4 r5 r6 BB BX CX
  have BB := B2
  have BX := X2
  have CX := C2
  clear B2 X2 C2
  obtain ⟨p0, p1, p2, p3, p4⟩ := BX.out
  obtain ⟨r0, r1, r2, r3, r4, r5, r6⟩ := CX.out
  simp only at p0 p1 p2 p3 p4 r0 r1 r2 r3 r4 r5 r6
  have GS := Lib.hid (HP.out.belowA BB.out).gs
  go_wp2_with fail
  go_loop [49] (fun z => ∃ k : Nat, k ≤ (readsR i.term).length ∧ z = .int .i64 k ∧ Hid (((readsR i.term).take k).all (hasS p.globals) = true)) (fun z => (readsR i.term).length - (intOf z).toNat)
  case atStart => exact ⟨0, Nat.zero_le _, rfl, Lib.hid (by simp)⟩
  case round =>
    obtain ⟨k, hk, rfl, HT⟩ := hrel
    by_cases hlt : k < (readsR i.term).length
    · obtain ⟨rb, roff, rfl, rcell⟩ := rd_str RD2.out hlt
      have h0k : (0 : Int) ≤ (k : Int) := by omega
      have h1k : (k : Int) < ((readsR i.term).length : Int) := by omega
      cases hh : hasS p.globals (readsR i.term)[k] with
      | false =>
        have F : Hid (insB p i b0 (e0 - 1) = false) := Lib.hid (insB_trm (trmB_miss (by rw [hopH.out]; simp) hlt hh))
        have HH := Lib.hid hh
        clear hh
        go_wp2_with (go_at_call 148; refine (slices_Contains _ p.globals _ _ GS.out).mono ?_; rintro e w' ⟨rfl, rfl⟩; rw [HH.out])
        go_ret
        exact ⟨ret_bool F.out.symm, BB.out⟩
      | true =>
        have T := Lib.hid (all_next hlt HT.out hh)
        have HH := Lib.hid hh
        clear hh
        go_wp2_with (go_at_call 148; refine (slices_Contains _ p.globals _ _ GS.out).mono ?_; rintro e w' ⟨rfl, rfl⟩; rw [HH.out])
        go_round
        case rel => exact ⟨k + 1, by omega, by go_num, T⟩
        case measure => simp [intOf]; omega
    · have FIN : Hid (insB p i b0 (e0 - 1) = tgtB i b0 (e0 - 1)) := Lib.hid (insB_fin Q1.out Q2.out (trmB_yes (by rw [hopH.out]; simp) H3.out (by have := HT.out; rwa [List.take_of_length_le (by omega)] at this)))
      clear HT
      have TG : Hid (tgtB i b0 (e0 - 1) = inB i.to b0 (e0 - 1)) := Lib.hid (tgtB_jump (by rw [hopH.out]; simp))
      by_cases k1 : b0 ≤ i.to
      · by_cases k2 : i.to < e0
        · have F : Hid (insB p i b0 (e0 - 1) = true) := Lib.hid (by rw [FIN.out, TG.out]; exact inBi_yes k1 (by omega))
          go_wp2_with fail
          go_ret
          exact ⟨ret_bool (Eq.trans (by first | rfl | exact decide_no (by omega) | exact decide_eq_true (by omega)) F.out.symm), BB.out⟩
        · have F : Hid (insB p i b0 (e0 - 1) = false) := Lib.hid (by rw [FIN.out, TG.out]; exact inBi_no (by omega))
          go_wp2_with fail
          go_ret
          exact ⟨ret_bool (Eq.trans (by first | rfl | exact decide_no (by omega) | exact decide_eq_true (by omega)) F.out.symm), BB.out⟩
      · have F : Hid (insB p i b0 (e0 - 1) = false) := Lib.hid (by rw [FIN.out, TG.out]; exact inBi_no (by omega))
        go_wp2_with fail
        go_ret
        exact ⟨ret_bool F.out.symm, BB.out⟩
set_option maxHeartbeats 3200000 in
set_option maxRecDepth 100000 in
theorem impl_insRight_3 (p : Cd) (x : V5) (i : Ic) (y : V7) (b0 e0 : Int) (w : World) (hp : CdIs w x p) (hI : IcIs AnyB w y i) (hop : i.op = 3) (htt : totT i.term ≤ 1048576) :
    Calls Tryd.prog 163 #[x.val p, .agg #[.int .i64 y.op, .int .i64 y.arg, .int .i64 y.k, .int .i64 y.n, .string y.s, .slice y.A y.m y.c, .int .i64 y.to], .int .i64 b0, .int .i64 e0] w fun e w' => e = .returned (.bool (insB p i b0 (e0 - 1))) ∧ Below w.heap.size w w' := by
  obtain ⟨gA, gc, lA, lc, pA, pc, eA, ec, iA, ic⟩ := x
  obtain ⟨yo, ya, yk, yn, ys, yA, ym, yc, yt⟩ := y
  have HP := Lib.hid hp
  obtain ⟨ho, ha, hto, _, _, _, hT⟩ := hI
  simp only [V7.term] at ho ha hto hT
  have HT := Lib.hid hT
  have hnd : nodes i.term ≤ 10000000 := by have := nodes_tot i.term; omega
  clear hT hp htt
  subst ha hto
  unfold V5.val
  simp only
  have hopH := Lib.hid hop
  rw [hop] at ho
  subst ho
  have AM : Hid (argM p i.op = argM p 3) := Lib.hid (by rw [hop])
  have Q1 : Hid (inB i.op 1 9 = true) := Lib.hid (by rw [hop]; rfl)
  clear hop
  have B0 : Hid (Below w.heap.size w ((w.alloc (.cells #[.slice gA p.globals.length gc, .slice lA p.locks.length lc, .slice pA p.procs.length pc, .slice eA p.entry.length ec, .slice iA p.ins.length ic] 59)).alloc (.cells #[.int .i64 3, .int .i64 i.arg, .int .i64 yk, .int .i64 yn, .string ys, .slice yA ym yc, .int .i64 i.to] 130))) := Lib.hid (by repeat' (first | exact Below.refl _ _ | exact Nat.le_refl _ | (refine Below.alloc ?_ ?_ _) | (refine Below.setCell ?_ ?_ _) | (refine Below.drew ?_) | (refine below_drewN ?_ _) | assumption | (simp; done) | (simp; omega)))
  have BX0 : Hid (Box5 ((w.alloc (.cells #[.slice gA p.globals.length gc, .slice lA p.locks.length lc, .slice pA p.procs.length pc, .slice eA p.entry.length ec, .slice iA p.ins.length ic] 59)).alloc (.cells #[.int .i64 3, .int .i64 i.arg, .int .i64 yk, .int .i64 yn, .string ys, .slice yA ym yc, .int .i64 i.to] 130)) w.heap.size ⟨gA, gc, lA, lc, pA, pc, eA, ec, iA, ic⟩ p) := Lib.hid ((Box5.new w ⟨gA, gc, lA, lc, pA, pc, eA, ec, iA, ic⟩ p _).below (Below.alloc (Below.refl _ _) (Nat.le_refl _) _))
  have CX0 : Hid (Cells7 ((w.alloc (.cells #[.slice gA p.globals.length gc, .slice lA p.locks.length lc, .slice pA p.procs.length pc, .slice eA p.entry.length ec, .slice iA p.ins.length ic] 59)).alloc (.cells #[.int .i64 3, .int .i64 i.arg, .int .i64 yk, .int .i64 yn, .string ys, .slice yA ym yc, .int .i64 i.to] 130)) (w.heap.size + 1) 0 ⟨3, i.arg, yk, yn, ys, yA, ym, yc, i.to⟩) := Lib.hid (by
    have := Cells7.new (w.alloc (.cells #[.slice gA p.globals.length gc, .slice lA p.locks.length lc, .slice pA p.procs.length pc, .slice eA p.entry.length ec, .slice iA p.ins.length ic] 59)) ⟨3, i.arg, yk, yn, ys, yA, ym, yc, i.to⟩ 130
    rwa [World.size_alloc] at this)
  by_cases l3 : i.arg < 0
  · have l3' : decide (i.arg < 0) = true := decide_eq_true l3
    have F : Hid (insB p i b0 (e0 - 1) = false) := Lib.hid (arg_bad (by omega))
    go_enter Tryd.func163, Tryd.ntmps163
    go_wp2_with fail
    refine wp_region_later (by kernel_rfl) (by kernel_rfl) ?_
    intro gw hgw hcw
    have HG := Lib.hid hgw
    have HC := Lib.hid hcw
    clear hgw hcw
    have P := Lib.hid (fun n => BX0.out.below (HG.out n))
    have C := Lib.hid (fun n => CX0.out.below (HG.out n))
    have p0 : ∀ n, (gw n).cell? ⟨w.heap.size, 0, none⟩ = some (.slice gA p.globals.length gc) := fun n => (P.out n).1
    have p1 : ∀ n, (gw n).cell? ⟨w.heap.size, 1, none⟩ = some (.slice lA p.locks.length lc) := fun n => (P.out n).2.1
    have p2 : ∀ n, (gw n).cell? ⟨w.heap.size, 2, none⟩ = some (.slice pA p.procs.length pc) := fun n => (P.out n).2.2.1
    have p3 : ∀ n, (gw n).cell? ⟨w.heap.size, 3, none⟩ = some (.slice eA p.entry.length ec) := fun n => (P.out n).2.2.2.1
    have p4 : ∀ n, (gw n).cell? ⟨w.heap.size, 4, none⟩ = some (.slice iA p.ins.length ic) := fun n => (P.out n).2.2.2.2
    have r0 : ∀ n, (gw n).cell? ⟨w.heap.size + 1, 0, none⟩ = some (.int .i64 3) := fun n => (C.out n).1
    have r1 : ∀ n, (gw n).cell? ⟨w.heap.size + 1, 1, none⟩ = some (.int .i64 i.arg) := fun n => (C.out n).2.1
    have r2 : ∀ n, (gw n).cell? ⟨w.heap.size + 1, 2, none⟩ = some (.int .i64 yk) := fun n => (C.out n).2.2.1
    have r3 : ∀ n, (gw n).cell? ⟨w.heap.size + 1, 3, none⟩ = some (.int .i64 yn) := fun n => (C.out n).2.2.2.1
    have r4 : ∀ n, (gw n).cell? ⟨w.heap.size + 1, 4, none⟩ = some (.string ys) := fun n => (C.out n).2.2.2.2.1
    have r5 : ∀ n, (gw n).cell? ⟨w.heap.size + 1, 5, none⟩ = some (.slice yA ym yc) := fun n => (C.out n).2.2.2.2.2.1
    have r6 : ∀ n, (gw n).cell? ⟨w.heap.size + 1, 6, none⟩ = some (.int .i64 i.to) := fun n => (C.out n).2.2.2.2.2.2
    repeat (go_big_quiet_step ((first | (go_at_call 209; exact later_of HC (impl_argMost p ⟨gA, gc, lA, lc, pA, pc, eA, ec, iA, ic⟩ _ (HP.out.belowA (below_then B0.out (HG.out _))) _)))))
    refine wpQuiet_nil ?_
    intro _ hw'
    obtain ⟨nq, hw''⟩ := hw'
    subst hw''
    go_wp2_with fail
    go_ret
    exact ⟨ret_bool F.out.symm, below_then B0.out (HG.out _)⟩
  have l3' : decide (i.arg < 0) = false := decide_no l3
  by_cases l4 : argM p 3 ≤ i.arg
  · have l4' : decide (argM p 3 ≤ i.arg) = true := decide_eq_true l4
    have F : Hid (insB p i b0 (e0 - 1) = false) := Lib.hid (arg_bad (by rw [AM.out]; omega))
    go_enter Tryd.func163, Tryd.ntmps163
    go_wp2_with fail
    refine wp_region_later (by kernel_rfl) (by kernel_rfl) ?_
    intro gw hgw hcw
    have HG := Lib.hid hgw
    have HC := Lib.hid hcw
    clear hgw hcw
    have P := Lib.hid (fun n => BX0.out.below (HG.out n))
    have C := Lib.hid (fun n => CX0.out.below (HG.out n))
    have p0 : ∀ n, (gw n).cell? ⟨w.heap.size, 0, none⟩ = some (.slice gA p.globals.length gc) := fun n => (P.out n).1
    have p1 : ∀ n, (gw n).cell? ⟨w.heap.size, 1, none⟩ = some (.slice lA p.locks.length lc) := fun n => (P.out n).2.1
    have p2 : ∀ n, (gw n).cell? ⟨w.heap.size, 2, none⟩ = some (.slice pA p.procs.length pc) := fun n => (P.out n).2.2.1
    have p3 : ∀ n, (gw n).cell? ⟨w.heap.size, 3, none⟩ = some (.slice eA p.entry.length ec) := fun n => (P.out n).2.2.2.1
    have p4 : ∀ n, (gw n).cell? ⟨w.heap.size, 4, none⟩ = some (.slice iA p.ins.length ic) := fun n => (P.out n).2.2.2.2
    have r0 : ∀ n, (gw n).cell? ⟨w.heap.size + 1, 0, none⟩ = some (.int .i64 3) := fun n => (C.out n).1
    have r1 : ∀ n, (gw n).cell? ⟨w.heap.size + 1, 1, none⟩ = some (.int .i64 i.arg) := fun n => (C.out n).2.1
    have r2 : ∀ n, (gw n).cell? ⟨w.heap.size + 1, 2, none⟩ = some (.int .i64 yk) := fun n => (C.out n).2.2.1
    have r3 : ∀ n, (gw n).cell? ⟨w.heap.size + 1, 3, none⟩ = some (.int .i64 yn) := fun n => (C.out n).2.2.2.1
    have r4 : ∀ n, (gw n).cell? ⟨w.heap.size + 1, 4, none⟩ = some (.string ys) := fun n => (C.out n).2.2.2.2.1
    have r5 : ∀ n, (gw n).cell? ⟨w.heap.size + 1, 5, none⟩ = some (.slice yA ym yc) := fun n => (C.out n).2.2.2.2.2.1
    have r6 : ∀ n, (gw n).cell? ⟨w.heap.size + 1, 6, none⟩ = some (.int .i64 i.to) := fun n => (C.out n).2.2.2.2.2.2
    repeat (go_big_quiet_step ((first | (go_at_call 209; exact later_of HC (impl_argMost p ⟨gA, gc, lA, lc, pA, pc, eA, ec, iA, ic⟩ _ (HP.out.belowA (below_then B0.out (HG.out _))) _)))))
    refine wpQuiet_nil ?_
    intro _ hw'
    obtain ⟨nq, hw''⟩ := hw'
    subst hw''
    go_wp2_with fail
    go_ret
    exact ⟨ret_bool F.out.symm, below_then B0.out (HG.out _)⟩
  have l4' : decide (argM p 3 ≤ i.arg) = false := decide_no l4
  have Q2 : Hid (inB i.arg 0 (mostC p i.op) = true) := Lib.hid (arg_good (by omega) (by rw [AM.out]; omega))
  cases h3 : sameB i.term zeroTm with
  | false =>
    have F : Hid (insB p i b0 (e0 - 1) = false) := Lib.hid (insB_trm (by rw [trmB_zero (by rw [hopH.out]; simp)]; exact h3))
    have H3 := Lib.hid h3
    clear h3
    go_enter Tryd.func163, Tryd.ntmps163
    go_wp2_with fail
    refine wp_region_later (by kernel_rfl) (by kernel_rfl) ?_
    intro gw hgw hcw
    have HG := Lib.hid hgw
    have HC := Lib.hid hcw
    clear hgw hcw
    have P := Lib.hid (fun n => BX0.out.below (HG.out n))
    have C := Lib.hid (fun n => CX0.out.below (HG.out n))
    have p0 : ∀ n, (gw n).cell? ⟨w.heap.size, 0, none⟩ = some (.slice gA p.globals.length gc) := fun n => (P.out n).1
    have p1 : ∀ n, (gw n).cell? ⟨w.heap.size, 1, none⟩ = some (.slice lA p.locks.length lc) := fun n => (P.out n).2.1
    have p2 : ∀ n, (gw n).cell? ⟨w.heap.size, 2, none⟩ = some (.slice pA p.procs.length pc) := fun n => (P.out n).2.2.1
    have p3 : ∀ n, (gw n).cell? ⟨w.heap.size, 3, none⟩ = some (.slice eA p.entry.length ec) := fun n => (P.out n).2.2.2.1
    have p4 : ∀ n, (gw n).cell? ⟨w.heap.size, 4, none⟩ = some (.slice iA p.ins.length ic) := fun n => (P.out n).2.2.2.2
    have r0 : ∀ n, (gw n).cell? ⟨w.heap.size + 1, 0, none⟩ = some (.int .i64 3) := fun n => (C.out n).1
    have r1 : ∀ n, (gw n).cell? ⟨w.heap.size + 1, 1, none⟩ = some (.int .i64 i.arg) := fun n => (C.out n).2.1
    have r2 : ∀ n, (gw n).cell? ⟨w.heap.size + 1, 2, none⟩ = some (.int .i64 yk) := fun n => (C.out n).2.2.1
    have r3 : ∀ n, (gw n).cell? ⟨w.heap.size + 1, 3, none⟩ = some (.int .i64 yn) := fun n => (C.out n).2.2.2.1
    have r4 : ∀ n, (gw n).cell? ⟨w.heap.size + 1, 4, none⟩ = some (.string ys) := fun n => (C.out n).2.2.2.2.1
    have r5 : ∀ n, (gw n).cell? ⟨w.heap.size + 1, 5, none⟩ = some (.slice yA ym yc) := fun n => (C.out n).2.2.2.2.2.1
    have r6 : ∀ n, (gw n).cell? ⟨w.heap.size + 1, 6, none⟩ = some (.int .i64 i.to) := fun n => (C.out n).2.2.2.2.2.2
    repeat (go_big_quiet_step ((first | (go_at_call 209; exact later_of HC (impl_argMost p ⟨gA, gc, lA, lc, pA, pc, eA, ec, iA, ic⟩ _ (HP.out.belowA (below_then B0.out (HG.out _))) _)))))
    refine wpQuiet_nil ?_
    intro _ hw'
    obtain ⟨nq, hw''⟩ := hw'
    subst hw''
    go_wp2_with fail
    refine (impl_isZeroTerm i.term yk yn ys yA ym yc _ (HT.out.belowA (below_then B0.out (HG.out _)))).mono ?_
    rintro e w1 ⟨rfl, b1⟩
    have BB : Hid (Below w.heap.size w w1) := Lib.hid (below_then (below_then B0.out (HG.out _)) b1)
    have BX := Lib.hid ((P.out _).below b1)
    have CX := Lib.hid ((C.out _).below b1)
    rw [H3.out]
    clear b1 p0 p1 p2 p3 p4 r0 r1 r2 r3 r4 r5 r6
    go_wp2_with fail
    go_ret
    exact ⟨ret_bool F.out.symm, BB.out⟩
  | true =>
  have FIN : Hid (insB p i b0 (e0 - 1) = tgtB i b0 (e0 - 1)) := Lib.hid (insB_fin Q1.out Q2.out (by rw [trmB_zero (by rw [hopH.out]; simp)]; exact h3))
  have H3 := Lib.hid h3
  clear h3
  go_enter Tryd.func163, Tryd.ntmps163
  go_wp2_with fail
  refine wp_region_later (by kernel_rfl) (by kernel_rfl) ?_
  intro gw hgw hcw
  have HG := Lib.hid hgw
  have HC := Lib.hid hcw
  clear hgw hcw
  have P := Lib.hid (fun n => BX0.out.below (HG.out n))
  have C := Lib.hid (fun n => CX0.out.below (HG.out n))
  have p0 : ∀ n, (gw n).cell? ⟨w.heap.size, 0, none⟩ = some (.slice gA p.globals.length gc) := fun n => (P.out n).1
  have p1 : ∀ n, (gw n).cell? ⟨w.heap.size, 1, none⟩ = some (.slice lA p.locks.length lc) := fun n => (P.out n).2.1
  have p2 : ∀ n, (gw n).cell? ⟨w.heap.size, 2, none⟩ = some (.slice pA p.procs.length pc) := fun n => (P.out n).2.2.1
  have p3 : ∀ n, (gw n).cell? ⟨w.heap.size, 3, none⟩ = some (.slice eA p.entry.length ec) := fun n => (P.out n).2.2.2.1
  have p4 : ∀ n, (gw n).cell? ⟨w.heap.size, 4, none⟩ = some (.slice iA p.ins.length ic) := fun n => (P.out n).2.2.2.2
  have r0 : ∀ n, (gw n).cell? ⟨w.heap.size + 1, 0, none⟩ = some (.int .i64 3) := fun n => (C.out n).1
  have r1 : ∀ n, (gw n).cell? ⟨w.heap.size + 1, 1, none⟩ = some (.int .i64 i.arg) := fun n => (C.out n).2.1
  have r2 : ∀ n, (gw n).cell? ⟨w.heap.size + 1, 2, none⟩ = some (.int .i64 yk) := fun n => (C.out n).2.2.1
  have r3 : ∀ n, (gw n).cell? ⟨w.heap.size + 1, 3, none⟩ = some (.int .i64 yn) := fun n => (C.out n).2.2.2.1
  have r4 : ∀ n, (gw n).cell? ⟨w.heap.size + 1, 4, none⟩ = some (.string ys) := fun n => (C.out n).2.2.2.2.1
  have r5 : ∀ n, (gw n).cell? ⟨w.heap.size + 1, 5, none⟩ = some (.slice yA ym yc) := fun n => (C.out n).2.2.2.2.2.1
  have r6 : ∀ n, (gw n).cell? ⟨w.heap.size + 1, 6, none⟩ = some (.int .i64 i.to) := fun n => (C.out n).2.2.2.2.2.2
  repeat (go_big_quiet_step ((first | (go_at_call 209; exact later_of HC (impl_argMost p ⟨gA, gc, lA, lc, pA, pc, eA, ec, iA, ic⟩ _ (HP.out.belowA (below_then B0.out (HG.out _))) _)))))
  refine wpQuiet_nil ?_
  intro _ hw'
  obtain ⟨nq, hw''⟩ := hw'
  subst hw''
  go_wp2_with fail
  refine (impl_isZeroTerm i.term yk yn ys yA ym yc _ (HT.out.belowA (below_then B0.out (HG.out _)))).mono ?_
  rintro e w1 ⟨rfl, b1⟩
  have BB : Hid (Below w.heap.size w w1) := Lib.hid (below_then (below_then B0.out (HG.out _)) b1)
  have BX := Lib.hid ((P.out _).below b1)
  have CX := Lib.hid ((C.out _).below b1)
  rw [H3.out]
  clear b1 p0 p1 p2 p3 p4 r0 r1 r2 r3 r4 r5 r6
  obtain ⟨p0, p1, p2, p3, p4⟩ := BX.out
  obtain ⟨r0, r1, r2, r3, r4, r5, r6⟩ := CX.out
  simp only at p0 p1 p2 p3 p4 r0 r1 r2 r3 r4 r5 r6
  have TG : Hid (tgtB i b0 (e0 - 1) = inB i.to b0 (e0 - 1)) := Lib.hid (tgtB_jump (by rw [hopH.out]; simp))
  by_cases k1 : b0 ≤ i.to
  · by_cases k2 : i.to < e0
    · have F : Hid (insB p i b0 (e0 - 1) = true) := Lib.hid (by rw [FIN.out, TG.out]; exact inBi_yes k1 (by omega))
      go_wp2_with fail
      go_ret
      exact ⟨ret_bool (Eq.trans (by first | rfl | exact decide_no (by omega) | exact decide_eq_true (by omega)) F.out.symm), BB.out⟩
    · have F : Hid (insB p i b0 (e0 - 1) = false) := Lib.hid (by rw [FIN.out, TG.out]; exact inBi_no (by omega))
      go_wp2_with fail
      go_ret
      exact ⟨ret_bool (Eq.trans (by first | rfl | exact decide_no (by omega) | exact decide_eq_true (by omega)) F.out.symm), BB.out⟩
  · have F : Hid (insB p i b0 (e0 - 1) = false) := Lib.hid (by rw [FIN.out, TG.out]; exact inBi_no (by omega))
    go_wp2_with fail
    go_ret
    exact ⟨ret_bool F.out.symm, BB.out⟩
set_option maxHeartbeats 3200000 in
set_option maxRecDepth 100000 in
theorem impl_insRight_4 (p : Cd) (x : V5) (i : Ic) (y : V7) (b0 e0 : Int) (w : World) (hp : CdIs w x p) (hI : IcIs AnyB w y i) (hop : i.op = 4) (htt : totT i.term ≤ 1048576) :
    Calls Tryd.prog 163 #[x.val p, .agg #[.int .i64 y.op, .int .i64 y.arg, .int .i64 y.k, .int .i64 y.n, .string y.s, .slice y.A y.m y.c, .int .i64 y.to], .int .i64 b0, .int .i64 e0] w fun e w' => e = .returned (.bool (insB p i b0 (e0 - 1))) ∧ Below w.heap.size w w' := by
  obtain ⟨gA, gc, lA, lc, pA, pc, eA, ec, iA, ic⟩ := x
  obtain ⟨yo, ya, yk, yn, ys, yA, ym, yc, yt⟩ := y
  have HP := Lib.hid hp
  obtain ⟨ho, ha, hto, _, _, _, hT⟩ := hI
  simp only [V7.term] at ho ha hto hT
  have HT := Lib.hid hT
  have hnd : nodes i.term ≤ 10000000 := by have := nodes_tot i.term; omega
  clear hT hp htt
  subst ha hto
  unfold V5.val
  simp only
  have hopH := Lib.hid hop
  rw [hop] at ho
  subst ho
  have AM : Hid (argM p i.op = argM p 4) := Lib.hid (by rw [hop])
  have Q1 : Hid (inB i.op 1 9 = true) := Lib.hid (by rw [hop]; rfl)
  clear hop
  have B0 : Hid (Below w.heap.size w ((w.alloc (.cells #[.slice gA p.globals.length gc, .slice lA p.locks.length lc, .slice pA p.procs.length pc, .slice eA p.entry.length ec, .slice iA p.ins.length ic] 59)).alloc (.cells #[.int .i64 4, .int .i64 i.arg, .int .i64 yk, .int .i64 yn, .string ys, .slice yA ym yc, .int .i64 i.to] 130))) := Lib.hid (by repeat' (first | exact Below.refl _ _ | exact Nat.le_refl _ | (refine Below.alloc ?_ ?_ _) | (refine Below.setCell ?_ ?_ _) | (refine Below.drew ?_) | (refine below_drewN ?_ _) | assumption | (simp; done) | (simp; omega)))
  have BX0 : Hid (Box5 ((w.alloc (.cells #[.slice gA p.globals.length gc, .slice lA p.locks.length lc, .slice pA p.procs.length pc, .slice eA p.entry.length ec, .slice iA p.ins.length ic] 59)).alloc (.cells #[.int .i64 4, .int .i64 i.arg, .int .i64 yk, .int .i64 yn, .string ys, .slice yA ym yc, .int .i64 i.to] 130)) w.heap.size ⟨gA, gc, lA, lc, pA, pc, eA, ec, iA, ic⟩ p) := Lib.hid ((Box5.new w ⟨gA, gc, lA, lc, pA, pc, eA, ec, iA, ic⟩ p _).below (Below.alloc (Below.refl _ _) (Nat.le_refl _) _))
  have CX0 : Hid (Cells7 ((w.alloc (.cells #[.slice gA p.globals.length gc, .slice lA p.locks.length lc, .slice pA p.procs.length pc, .slice eA p.entry.length ec, .slice iA p.ins.length ic] 59)).alloc (.cells #[.int .i64 4, .int .i64 i.arg, .int .i64 yk, .int .i64 yn, .string ys, .slice yA ym yc, .int .i64 i.to] 130)) (w.heap.size + 1) 0 ⟨4, i.arg, yk, yn, ys, yA, ym, yc, i.to⟩) := Lib.hid (by
    have := Cells7.new (w.alloc (.cells #[.slice gA p.globals.length gc, .slice lA p.locks.length lc, .slice pA p.procs.length pc, .slice eA p.entry.length ec, .slice iA p.ins.length ic] 59)) ⟨4, i.arg, yk, yn, ys, yA, ym, yc, i.to⟩ 130
    rwa [World.size_alloc] at this)
  by_cases l3 : i.arg < 0
  · have l3' : decide (i.arg < 0) = true := decide_eq_true l3
    have F : Hid (insB p i b0 (e0 - 1) = false) := Lib.hid (arg_bad (by omega))
    go_enter Tryd.func163, Tryd.ntmps163
    go_wp2_with fail
    refine wp_region_later (by kernel_rfl) (by kernel_rfl) ?_
    intro gw hgw hcw
    have HG := Lib.hid hgw
    have HC := Lib.hid hcw
    clear hgw hcw
    have P := Lib.hid (fun n => BX0.out.below (HG.out n))
    have C := Lib.hid (fun n => CX0.out.below (HG.out n))
    have p0 : ∀ n, (gw n).cell? ⟨w.heap.size, 0, none⟩ = some (.slice gA p.globals.length gc) := fun n => (P.out n).1
    have p1 : ∀ n, (gw n).cell? ⟨w.heap.size, 1, none⟩ = some (.slice lA p.locks.length lc) := fun n => (P.out n).2.1
    have p2 : ∀ n, (gw n).cell? ⟨w.heap.size, 2, none⟩ = some (.slice pA p.procs.length pc) := fun n => (P.out n).2.2.1
    have p3 : ∀ n, (gw n).cell? ⟨w.heap.size, 3, none⟩ = some (.slice eA p.entry.length ec) := fun n => (P.out n).2.2.2.1
    have p4 : ∀ n, (gw n).cell? ⟨w.heap.size, 4, none⟩ = some (.slice iA p.ins.length ic) := fun n => (P.out n).2.2.2.2
    have r0 : ∀ n, (gw n).cell? ⟨w.heap.size + 1, 0, none⟩ = some (.int .i64 4) := fun n => (C.out n).1
    have r1 : ∀ n, (gw n).cell? ⟨w.heap.size + 1, 1, none⟩ = some (.int .i64 i.arg) := fun n => (C.out n).2.1
    have r2 : ∀ n, (gw n).cell? ⟨w.heap.size + 1, 2, none⟩ = some (.int .i64 yk) := fun n => (C.out n).2.2.1
    have r3 : ∀ n, (gw n).cell? ⟨w.heap.size + 1, 3, none⟩ = some (.int .i64 yn) := fun n => (C.out n).2.2.2.1
    have r4 : ∀ n, (gw n).cell? ⟨w.heap.size + 1, 4, none⟩ = some (.string ys) := fun n => (C.out n).2.2.2.2.1
    have r5 : ∀ n, (gw n).cell? ⟨w.heap.size + 1, 5, none⟩ = some (.slice yA ym yc) := fun n => (C.out n).2.2.2.2.2.1
    have r6 : ∀ n, (gw n).cell? ⟨w.heap.size + 1, 6, none⟩ = some (.int .i64 i.to) := fun n => (C.out n).2.2.2.2.2.2
    repeat (go_big_quiet_step ((first | (go_at_call 209; exact later_of HC (impl_argMost p ⟨gA, gc, lA, lc, pA, pc, eA, ec, iA, ic⟩ _ (HP.out.belowA (below_then B0.out (HG.out _))) _)))))
    refine wpQuiet_nil ?_
    intro _ hw'
    obtain ⟨nq, hw''⟩ := hw'
    subst hw''
    go_wp2_with fail
    go_ret
    exact ⟨ret_bool F.out.symm, below_then B0.out (HG.out _)⟩
  have l3' : decide (i.arg < 0) = false := decide_no l3
  by_cases l4 : argM p 4 ≤ i.arg
  · have l4' : decide (argM p 4 ≤ i.arg) = true := decide_eq_true l4
    have F : Hid (insB p i b0 (e0 - 1) = false) := Lib.hid (arg_bad (by rw [AM.out]; omega))
    go_enter Tryd.func163, Tryd.ntmps163
    go_wp2_with fail
    refine wp_region_later (by kernel_rfl) (by kernel_rfl) ?_
    intro gw hgw hcw
    have HG := Lib.hid hgw
    have HC := Lib.hid hcw
    clear hgw hcw
    have P := Lib.hid (fun n => BX0.out.below (HG.out n))
    have C := Lib.hid (fun n => CX0.out.below (HG.out n))
    have p0 : ∀ n, (gw n).cell? ⟨w.heap.size, 0, none⟩ = some (.slice gA p.globals.length gc) := fun n => (P.out n).1
    have p1 : ∀ n, (gw n).cell? ⟨w.heap.size, 1, none⟩ = some (.slice lA p.locks.length lc) := fun n => (P.out n).2.1
    have p2 : ∀ n, (gw n).cell? ⟨w.heap.size, 2, none⟩ = some (.slice pA p.procs.length pc) := fun n => (P.out n).2.2.1
    have p3 : ∀ n, (gw n).cell? ⟨w.heap.size, 3, none⟩ = some (.slice eA p.entry.length ec) := fun n => (P.out n).2.2.2.1
    have p4 : ∀ n, (gw n).cell? ⟨w.heap.size, 4, none⟩ = some (.slice iA p.ins.length ic) := fun n => (P.out n).2.2.2.2
    have r0 : ∀ n, (gw n).cell? ⟨w.heap.size + 1, 0, none⟩ = some (.int .i64 4) := fun n => (C.out n).1
    have r1 : ∀ n, (gw n).cell? ⟨w.heap.size + 1, 1, none⟩ = some (.int .i64 i.arg) := fun n => (C.out n).2.1
    have r2 : ∀ n, (gw n).cell? ⟨w.heap.size + 1, 2, none⟩ = some (.int .i64 yk) := fun n => (C.out n).2.2.1
    have r3 : ∀ n, (gw n).cell? ⟨w.heap.size + 1, 3, none⟩ = some (.int .i64 yn) := fun n => (C.out n).2.2.2.1
    have r4 : ∀ n, (gw n).cell? ⟨w.heap.size + 1, 4, none⟩ = some (.string ys) := fun n => (C.out n).2.2.2.2.1
    have r5 : ∀ n, (gw n).cell? ⟨w.heap.size + 1, 5, none⟩ = some (.slice yA ym yc) := fun n => (C.out n).2.2.2.2.2.1
    have r6 : ∀ n, (gw n).cell? ⟨w.heap.size + 1, 6, none⟩ = some (.int .i64 i.to) := fun n => (C.out n).2.2.2.2.2.2
    repeat (go_big_quiet_step ((first | (go_at_call 209; exact later_of HC (impl_argMost p ⟨gA, gc, lA, lc, pA, pc, eA, ec, iA, ic⟩ _ (HP.out.belowA (below_then B0.out (HG.out _))) _)))))
    refine wpQuiet_nil ?_
    intro _ hw'
    obtain ⟨nq, hw''⟩ := hw'
    subst hw''
    go_wp2_with fail
    go_ret
    exact ⟨ret_bool F.out.symm, below_then B0.out (HG.out _)⟩
  have l4' : decide (argM p 4 ≤ i.arg) = false := decide_no l4
  have Q2 : Hid (inB i.arg 0 (mostC p i.op) = true) := Lib.hid (arg_good (by omega) (by rw [AM.out]; omega))
  cases h3 : sameB i.term zeroTm with
  | false =>
    have F : Hid (insB p i b0 (e0 - 1) = false) := Lib.hid (insB_trm (by rw [trmB_zero (by rw [hopH.out]; simp)]; exact h3))
    have H3 := Lib.hid h3
    clear h3
    go_enter Tryd.func163, Tryd.ntmps163
    go_wp2_with fail
    refine wp_region_later (by kernel_rfl) (by kernel_rfl) ?_
    intro gw hgw hcw
    have HG := Lib.hid hgw
    have HC := Lib.hid hcw
    clear hgw hcw
    have P := Lib.hid (fun n => BX0.out.below (HG.out n))
    have C := Lib.hid (fun n => CX0.out.below (HG.out n))
    have p0 : ∀ n, (gw n).cell? ⟨w.heap.size, 0, none⟩ = some (.slice gA p.globals.length gc) := fun n => (P.out n).1
    have p1 : ∀ n, (gw n).cell? ⟨w.heap.size, 1, none⟩ = some (.slice lA p.locks.length lc) := fun n => (P.out n).2.1
    have p2 : ∀ n, (gw n).cell? ⟨w.heap.size, 2, none⟩ = some (.slice pA p.procs.length pc) := fun n => (P.out n).2.2.1
    have p3 : ∀ n, (gw n).cell? ⟨w.heap.size, 3, none⟩ = some (.slice eA p.entry.length ec) := fun n => (P.out n).2.2.2.1
    have p4 : ∀ n, (gw n).cell? ⟨w.heap.size, 4, none⟩ = some (.slice iA p.ins.length ic) := fun n => (P.out n).2.2.2.2
    have r0 : ∀ n, (gw n).cell? ⟨w.heap.size + 1, 0, none⟩ = some (.int .i64 4) := fun n => (C.out n).1
    have r1 : ∀ n, (gw n).cell? ⟨w.heap.size + 1, 1, none⟩ = some (.int .i64 i.arg) := fun n => (C.out n).2.1
    have r2 : ∀ n, (gw n).cell? ⟨w.heap.size + 1, 2, none⟩ = some (.int .i64 yk) := fun n => (C.out n).2.2.1
    have r3 : ∀ n, (gw n).cell? ⟨w.heap.size + 1, 3, none⟩ = some (.int .i64 yn) := fun n => (C.out n).2.2.2.1
    have r4 : ∀ n, (gw n).cell? ⟨w.heap.size + 1, 4, none⟩ = some (.string ys) := fun n => (C.out n).2.2.2.2.1
    have r5 : ∀ n, (gw n).cell? ⟨w.heap.size + 1, 5, none⟩ = some (.slice yA ym yc) := fun n => (C.out n).2.2.2.2.2.1
    have r6 : ∀ n, (gw n).cell? ⟨w.heap.size + 1, 6, none⟩ = some (.int .i64 i.to) := fun n => (C.out n).2.2.2.2.2.2
    repeat (go_big_quiet_step ((first | (go_at_call 209; exact later_of HC (impl_argMost p ⟨gA, gc, lA, lc, pA, pc, eA, ec, iA, ic⟩ _ (HP.out.belowA (below_then B0.out (HG.out _))) _)))))
    refine wpQuiet_nil ?_
    intro _ hw'
    obtain ⟨nq, hw''⟩ := hw'
    subst hw''
    go_wp2_with fail
    refine (impl_isZeroTerm i.term yk yn ys yA ym yc _ (HT.out.belowA (below_then B0.out (HG.out _)))).mono ?_
    rintro e w1 ⟨rfl, b1⟩
    have BB : Hid (Below w.heap.size w w1) := Lib.hid (below_then (below_then B0.out (HG.out _)) b1)
    have BX := Lib.hid ((P.out _).below b1)
    have CX := Lib.hid ((C.out _).below b1)
    rw [H3.out]
    clear b1 p0 p1 p2 p3 p4 r0 r1 r2 r3 r4 r5 r6
    go_wp2_with fail
    go_ret
    exact ⟨ret_bool F.out.symm, BB.out⟩
  | true =>
  have FIN : Hid (insB p i b0 (e0 - 1) = tgtB i b0 (e0 - 1)) := Lib.hid (insB_fin Q1.out Q2.out (by rw [trmB_zero (by rw [hopH.out]; simp)]; exact h3))
  have H3 := Lib.hid h3
  clear h3
  go_enter Tryd.func163, Tryd.ntmps163
  go_wp2_with fail
  refine wp_region_later (by kernel_rfl) (by kernel_rfl) ?_
  intro gw hgw hcw
  have HG := Lib.hid hgw
  have HC := Lib.hid hcw
  clear hgw hcw
  have P := Lib.hid (fun n => BX0.out.below (HG.out n))
  have C := Lib.hid (fun n => CX0.out.below (HG.out n))
  have p0 : ∀ n, (gw n).cell? ⟨w.heap.size, 0, none⟩ = some (.slice gA p.globals.length gc) := fun n => (P.out n).1
  have p1 : ∀ n, (gw n).cell? ⟨w.heap.size, 1, none⟩ = some (.slice lA p.locks.length lc) := fun n => (P.out n).2.1
  have p2 : ∀ n, (gw n).cell? ⟨w.heap.size, 2, none⟩ = some (.slice pA p.procs.length pc) := fun n => (P.out n).2.2.1
  have p3 : ∀ n, (gw n).cell? ⟨w.heap.size, 3, none⟩ = some (.slice eA p.entry.length ec) := fun n => (P.out n).2.2.2.1
  have p4 : ∀ n, (gw n).cell? ⟨w.heap.size, 4, none⟩ = some (.slice iA p.ins.length ic) := fun n => (P.out n).2.2.2.2
  have r0 : ∀ n, (gw n).cell? ⟨w.heap.size + 1, 0, none⟩ = some (.int .i64 4) := fun n => (C.out n).1
  have r1 : ∀ n, (gw n).cell? ⟨w.heap.size + 1, 1, none⟩ = some (.int .i64 i.arg) := fun n => (C.out n).2.1
  have r2 : ∀ n, (gw n).cell? ⟨w.heap.size + 1, 2, none⟩ = some (.int .i64 yk) := fun n => (C.out n).2.2.1
  have r3 : ∀ n, (gw n).cell? ⟨w.heap.size + 1, 3, none⟩ = some (.int .i64 yn) := fun n => (C.out n).2.2.2.1
  have r4 : ∀ n, (gw n).cell? ⟨w.heap.size + 1, 4, none⟩ = some (.string ys) := fun n => (C.out n).2.2.2.2.1
  have r5 : ∀ n, (gw n).cell? ⟨w.heap.size + 1, 5, none⟩ = some (.slice yA ym yc) := fun n => (C.out n).2.2.2.2.2.1
  have r6 : ∀ n, (gw n).cell? ⟨w.heap.size + 1, 6, none⟩ = some (.int .i64 i.to) := fun n => (C.out n).2.2.2.2.2.2
  repeat (go_big_quiet_step ((first | (go_at_call 209; exact later_of HC (impl_argMost p ⟨gA, gc, lA, lc, pA, pc, eA, ec, iA, ic⟩ _ (HP.out.belowA (below_then B0.out (HG.out _))) _)))))
  refine wpQuiet_nil ?_
  intro _ hw'
  obtain ⟨nq, hw''⟩ := hw'
  subst hw''
  go_wp2_with fail
  refine (impl_isZeroTerm i.term yk yn ys yA ym yc _ (HT.out.belowA (below_then B0.out (HG.out _)))).mono ?_
  rintro e w1 ⟨rfl, b1⟩
  have BB : Hid (Below w.heap.size w w1) := Lib.hid (below_then (below_then B0.out (HG.out _)) b1)
  have BX := Lib.hid ((P.out _).below b1)
  have CX := Lib.hid ((C.out _).below b1)
  rw [H3.out]
  clear b1 p0 p1 p2 p3 p4 r0 r1 r2 r3 r4 r5 r6
  obtain ⟨p0, p1, p2, p3, p4⟩ := BX.out
  obtain ⟨r0, r1, r2, r3, r4, r5, r6⟩ := CX.out
  simp only at p0 p1 p2 p3 p4 r0 r1 r2 r3 r4 r5 r6
  have F : Hid (insB p i b0 (e0 - 1) = (i.to == 0)) := Lib.hid (by rw [FIN.out, tgtB_none (by rw [hopH.out]; simp)])
  go_wp2_with fail
  go_ret
  exact ⟨ret_bool F.out.symm, BB.out⟩
set_option maxHeartbeats 3200000 in
set_option maxRecDepth 100000 in
theorem impl_insRight_5 (p : Cd) (x : V5) (i : Ic) (y : V7) (b0 e0 : Int) (w : World) (hp : CdIs w x p) (hI : IcIs AnyB w y i) (hop : i.op = 5) (htt : totT i.term ≤ 1048576) :
    Calls Tryd.prog 163 #[x.val p, .agg #[.int .i64 y.op, .int .i64 y.arg, .int .i64 y.k, .int .i64 y.n, .string y.s, .slice y.A y.m y.c, .int .i64 y.to], .int .i64 b0, .int .i64 e0] w fun e w' => e = .returned (.bool (insB p i b0 (e0 - 1))) ∧ Below w.heap.size w w' := by
  obtain ⟨gA, gc, lA, lc, pA, pc, eA, ec, iA, ic⟩ := x
  obtain ⟨yo, ya, yk, yn, ys, yA, ym, yc, yt⟩ := y
  have HP := Lib.hid hp
  obtain ⟨ho, ha, hto, _, _, _, hT⟩ := hI
  simp only [V7.term] at ho ha hto hT
  have HT := Lib.hid hT
  have hnd : nodes i.term ≤ 10000000 := by have := nodes_tot i.term; omega
  clear hT hp htt
  subst ha hto
  unfold V5.val
  simp only
  have hopH := Lib.hid hop
  rw [hop] at ho
  subst ho
  have AM : Hid (argM p i.op = argM p 5) := Lib.hid (by rw [hop])
  have Q1 : Hid (inB i.op 1 9 = true) := Lib.hid (by rw [hop]; rfl)
  clear hop
  have B0 : Hid (Below w.heap.size w ((w.alloc (.cells #[.slice gA p.globals.length gc, .slice lA p.locks.length lc, .slice pA p.procs.length pc, .slice eA p.entry.length ec, .slice iA p.ins.length ic] 59)).alloc (.cells #[.int .i64 5, .int .i64 i.arg, .int .i64 yk, .int .i64 yn, .string ys, .slice yA ym yc, .int .i64 i.to] 130))) := Lib.hid (by repeat' (first | exact Below.refl _ _ | exact Nat.le_refl _ | (refine Below.alloc ?_ ?_ _) | (refine Below.setCell ?_ ?_ _) | (refine Below.drew ?_) | (refine below_drewN ?_ _) | assumption | (simp; done) | (simp; omega)))
  have BX0 : Hid (Box5 ((w.alloc (.cells #[.slice gA p.globals.length gc, .slice lA p.locks.length lc, .slice pA p.procs.length pc, .slice eA p.entry.length ec, .slice iA p.ins.length ic] 59)).alloc (.cells #[.int .i64 5, .int .i64 i.arg, .int .i64 yk, .int .i64 yn, .string ys, .slice yA ym yc, .int .i64 i.to] 130)) w.heap.size ⟨gA, gc, lA, lc, pA, pc, eA, ec, iA, ic⟩ p) := Lib.hid ((Box5.new w ⟨gA, gc, lA, lc, pA, pc, eA, ec, iA, ic⟩ p _).below (Below.alloc (Below.refl _ _) (Nat.le_refl _) _))
  have CX0 : Hid (Cells7 ((w.alloc (.cells #[.slice gA p.globals.length gc, .slice lA p.locks.length lc, .slice pA p.procs.length pc, .slice eA p.entry.length ec, .slice iA p.ins.length ic] 59)).alloc (.cells #[.int .i64 5, .int .i64 i.arg, .int .i64 yk, .int .i64 yn, .string ys, .slice yA ym yc, .int .i64 i.to] 130)) (w.heap.size + 1) 0 ⟨5, i.arg, yk, yn, ys, yA, ym, yc, i.to⟩) := Lib.hid (by
    have := Cells7.new (w.alloc (.cells #[.slice gA p.globals.length gc, .slice lA p.locks.length lc, .slice pA p.procs.length pc, .slice eA p.entry.length ec, .slice iA p.ins.length ic] 59)) ⟨5, i.arg, yk, yn, ys, yA, ym, yc, i.to⟩ 130
    rwa [World.size_alloc] at this)
  by_cases l3 : i.arg < 0
  · have l3' : decide (i.arg < 0) = true := decide_eq_true l3
    have F : Hid (insB p i b0 (e0 - 1) = false) := Lib.hid (arg_bad (by omega))
    go_enter Tryd.func163, Tryd.ntmps163
    go_wp2_with fail
    refine wp_region_later (by kernel_rfl) (by kernel_rfl) ?_
    intro gw hgw hcw
    have HG := Lib.hid hgw
    have HC := Lib.hid hcw
    clear hgw hcw
    have P := Lib.hid (fun n => BX0.out.below (HG.out n))
    have C := Lib.hid (fun n => CX0.out.below (HG.out n))
    have p0 : ∀ n, (gw n).cell? ⟨w.heap.size, 0, none⟩ = some (.slice gA p.globals.length gc) := fun n => (P.out n).1
    have p1 : ∀ n, (gw n).cell? ⟨w.heap.size, 1, none⟩ = some (.slice lA p.locks.length lc) := fun n => (P.out n).2.1
    have p2 : ∀ n, (gw n).cell? ⟨w.heap.size, 2, none⟩ = some (.slice pA p.procs.length pc) := fun n => (P.out n).2.2.1
    have p3 : ∀ n, (gw n).cell? ⟨w.heap.size, 3, none⟩ = some (.slice eA p.entry.length ec) := fun n => (P.out n).2.2.2.1
    have p4 : ∀ n, (gw n).cell? ⟨w.heap.size, 4, none⟩ = some (.slice iA p.ins.length ic) := fun n => (P.out n).2.2.2.2
    have r0 : ∀ n, (gw n).cell? ⟨w.heap.size + 1, 0, none⟩ = some (.int .i64 5) := fun n => (C.out n).1
    have r1 : ∀ n, (gw n).cell? ⟨w.heap.size + 1, 1, none⟩ = some (.int .i64 i.arg) := fun n => (C.out n).2.1
    have r2 : ∀ n, (gw n).cell? ⟨w.heap.size + 1, 2, none⟩ = some (.int .i64 yk) := fun n => (C.out n).2.2.1
    have r3 : ∀ n, (gw n).cell? ⟨w.heap.size + 1, 3, none⟩ = some (.int .i64 yn) := fun n => (C.out n).2.2.2.1
    have r4 : ∀ n, (gw n).cell? ⟨w.heap.size + 1, 4, none⟩ = some (.string ys) := fun n => (C.out n).2.2.2.2.1
    have r5 : ∀ n, (gw n).cell? ⟨w.heap.size + 1, 5, none⟩ = some (.slice yA ym yc) := fun n => (C.out n).2.2.2.2.2.1
    have r6 : ∀ n, (gw n).cell? ⟨w.heap.size + 1, 6, none⟩ = some (.int .i64 i.to) := fun n => (C.out n).2.2.2.2.2.2
    repeat (go_big_quiet_step ((first | (go_at_call 209; exact later_of HC (impl_argMost p ⟨gA, gc, lA, lc, pA, pc, eA, ec, iA, ic⟩ _ (HP.out.belowA (below_then B0.out (HG.out _))) _)))))
    refine wpQuiet_nil ?_
    intro _ hw'
    obtain ⟨nq, hw''⟩ := hw'
    subst hw''
    go_wp2_with fail
    go_ret
    exact ⟨ret_bool F.out.symm, below_then B0.out (HG.out _)⟩
  have l3' : decide (i.arg < 0) = false := decide_no l3
  by_cases l4 : argM p 5 ≤ i.arg
  · have l4' : decide (argM p 5 ≤ i.arg) = true := decide_eq_true l4
    have F : Hid (insB p i b0 (e0 - 1) = false) := Lib.hid (arg_bad (by rw [AM.out]; omega))
    go_enter Tryd.func163, Tryd.ntmps163
    go_wp2_with fail
    refine wp_region_later (by kernel_rfl) (by kernel_rfl) ?_
    intro gw hgw hcw
    have HG := Lib.hid hgw
    have HC := Lib.hid hcw
    clear hgw hcw
    have P := Lib.hid (fun n => BX0.out.below (HG.out n))
    have C := Lib.hid (fun n => CX0.out.below (HG.out n))
    have p0 : ∀ n, (gw n).cell? ⟨w.heap.size, 0, none⟩ = some (.slice gA p.globals.length gc) := fun n => (P.out n).1
    have p1 : ∀ n, (gw n).cell? ⟨w.heap.size, 1, none⟩ = some (.slice lA p.locks.length lc) := fun n => (P.out n).2.1
    have p2 : ∀ n, (gw n).cell? ⟨w.heap.size, 2, none⟩ = some (.slice pA p.procs.length pc) := fun n => (P.out n).2.2.1
    have p3 : ∀ n, (gw n).cell? ⟨w.heap.size, 3, none⟩ = some (.slice eA p.entry.length ec) := fun n => (P.out n).2.2.2.1
    have p4 : ∀ n, (gw n).cell? ⟨w.heap.size, 4, none⟩ = some (.slice iA p.ins.length ic) := fun n => (P.out n).2.2.2.2
    have r0 : ∀ n, (gw n).cell? ⟨w.heap.size + 1, 0, none⟩ = some (.int .i64 5) := fun n => (C.out n).1
    have r1 : ∀ n, (gw n).cell? ⟨w.heap.size + 1, 1, none⟩ = some (.int .i64 i.arg) := fun n => (C.out n).2.1
    have r2 : ∀ n, (gw n).cell? ⟨w.heap.size + 1, 2, none⟩ = some (.int .i64 yk) := fun n => (C.out n).2.2.1
    have r3 : ∀ n, (gw n).cell? ⟨w.heap.size + 1, 3, none⟩ = some (.int .i64 yn) := fun n => (C.out n).2.2.2.1
    have r4 : ∀ n, (gw n).cell? ⟨w.heap.size + 1, 4, none⟩ = some (.string ys) := fun n => (C.out n).2.2.2.2.1
    have r5 : ∀ n, (gw n).cell? ⟨w.heap.size + 1, 5, none⟩ = some (.slice yA ym yc) := fun n => (C.out n).2.2.2.2.2.1
    have r6 : ∀ n, (gw n).cell? ⟨w.heap.size + 1, 6, none⟩ = some (.int .i64 i.to) := fun n => (C.out n).2.2.2.2.2.2
    repeat (go_big_quiet_step ((first | (go_at_call 209; exact later_of HC (impl_argMost p ⟨gA, gc, lA, lc, pA, pc, eA, ec, iA, ic⟩ _ (HP.out.belowA (below_then B0.out (HG.out _))) _)))))
    refine wpQuiet_nil ?_
    intro _ hw'
    obtain ⟨nq, hw''⟩ := hw'
    subst hw''
    go_wp2_with fail
    go_ret
    exact ⟨ret_bool F.out.symm, below_then B0.out (HG.out _)⟩
  have l4' : decide (argM p 5 ≤ i.arg) = false := decide_no l4
  have Q2 : Hid (inB i.arg 0 (mostC p i.op) = true) := Lib.hid (arg_good (by omega) (by rw [AM.out]; omega))
  cases h3 : sameB i.term zeroTm with
  | false =>
    have F : Hid (insB p i b0 (e0 - 1) = false) := Lib.hid (insB_trm (by rw [trmB_zero (by rw [hopH.out]; simp)]; exact h3))
    have H3 := Lib.hid h3
    clear h3
    go_enter Tryd.func163, Tryd.ntmps163
    go_wp2_with fail
    refine wp_region_later (by kernel_rfl) (by kernel_rfl) ?_
    intro gw hgw hcw
    have HG := Lib.hid hgw
    have HC := Lib.hid hcw
    clear hgw hcw
    have P := Lib.hid (fun n => BX0.out.below (HG.out n))
    have C := Lib.hid (fun n => CX0.out.below (HG.out n))
    have p0 : ∀ n, (gw n).cell? ⟨w.heap.size, 0, none⟩ = some (.slice gA p.globals.length gc) := fun n => (P.out n).1
    have p1 : ∀ n, (gw n).cell? ⟨w.heap.size, 1, none⟩ = some (.slice lA p.locks.length lc) := fun n => (P.out n).2.1
    have p2 : ∀ n, (gw n).cell? ⟨w.heap.size, 2, none⟩ = some (.slice pA p.procs.length pc) := fun n => (P.out n).2.2.1
    have p3 : ∀ n, (gw n).cell? ⟨w.heap.size, 3, none⟩ = some (.slice eA p.entry.length ec) := fun n => (P.out n).2.2.2.1
    have p4 : ∀ n, (gw n).cell? ⟨w.heap.size, 4, none⟩ = some (.slice iA p.ins.length ic) := fun n => (P.out n).2.2.2.2
    have r0 : ∀ n, (gw n).cell? ⟨w.heap.size + 1, 0, none⟩ = some (.int .i64 5) := fun n => (C.out n).1
    have r1 : ∀ n, (gw n).cell? ⟨w.heap.size + 1, 1, none⟩ = some (.int .i64 i.arg) := fun n => (C.out n).2.1
    have r2 : ∀ n, (gw n).cell? ⟨w.heap.size + 1, 2, none⟩ = some (.int .i64 yk) := fun n => (C.out n).2.2.1
    have r3 : ∀ n, (gw n).cell? ⟨w.heap.size + 1, 3, none⟩ = some (.int .i64 yn) := fun n => (C.out n).2.2.2.1
    have r4 : ∀ n, (gw n).cell? ⟨w.heap.size + 1, 4, none⟩ = some (.string ys) := fun n => (C.out n).2.2.2.2.1
    have r5 : ∀ n, (gw n).cell? ⟨w.heap.size + 1, 5, none⟩ = some (.slice yA ym yc) := fun n => (C.out n).2.2.2.2.2.1
    have r6 : ∀ n, (gw n).cell? ⟨w.heap.size + 1, 6, none⟩ = some (.int .i64 i.to) := fun n => (C.out n).2.2.2.2.2.2
    repeat (go_big_quiet_step ((first | (go_at_call 209; exact later_of HC (impl_argMost p ⟨gA, gc, lA, lc, pA, pc, eA, ec, iA, ic⟩ _ (HP.out.belowA (below_then B0.out (HG.out _))) _)))))
    refine wpQuiet_nil ?_
    intro _ hw'
    obtain ⟨nq, hw''⟩ := hw'
    subst hw''
    go_wp2_with fail
    refine (impl_isZeroTerm i.term yk yn ys yA ym yc _ (HT.out.belowA (below_then B0.out (HG.out _)))).mono ?_
    rintro e w1 ⟨rfl, b1⟩
    have BB : Hid (Below w.heap.size w w1) := Lib.hid (below_then (below_then B0.out (HG.out _)) b1)
    have BX := Lib.hid ((P.out _).below b1)
    have CX := Lib.hid ((C.out _).below b1)
    rw [H3.out]
    clear b1 p0 p1 p2 p3 p4 r0 r1 r2 r3 r4 r5 r6
    go_wp2_with fail
    go_ret
    exact ⟨ret_bool F.out.symm, BB.out⟩
  | true =>
  have FIN : Hid (insB p i b0 (e0 - 1) = tgtB i b0 (e0 - 1)) := Lib.hid (insB_fin Q1.out Q2.out (by rw [trmB_zero (by rw [hopH.out]; simp)]; exact h3))
  have H3 := Lib.hid h3
  clear h3
  go_enter Tryd.func163, Tryd.ntmps163
  go_wp2_with fail
  refine wp_region_later (by kernel_rfl) (by kernel_rfl) ?_
  intro gw hgw hcw
  have HG := Lib.hid hgw
  have HC := Lib.hid hcw
  clear hgw hcw
  have P := Lib.hid (fun n => BX0.out.below (HG.out n))
  have C := Lib.hid (fun n => CX0.out.below (HG.out n))
  have p0 : ∀ n, (gw n).cell? ⟨w.heap.size, 0, none⟩ = some (.slice gA p.globals.length gc) := fun n => (P.out n).1
  have p1 : ∀ n, (gw n).cell? ⟨w.heap.size, 1, none⟩ = some (.slice lA p.locks.length lc) := fun n => (P.out n).2.1
  have p2 : ∀ n, (gw n).cell? ⟨w.heap.size, 2, none⟩ = some (.slice pA p.procs.length pc) := fun n => (P.out n).2.2.1
  have p3 : ∀ n, (gw n).cell? ⟨w.heap.size, 3, none⟩ = some (.slice eA p.entry.length ec) := fun n => (P.out n).2.2.2.1
  have p4 : ∀ n, (gw n).cell? ⟨w.heap.size, 4, none⟩ = some (.slice iA p.ins.length ic) := fun n => (P.out n).2.2.2.2
  have r0 : ∀ n, (gw n).cell? ⟨w.heap.size + 1, 0, none⟩ = some (.int .i64 5) := fun n => (C.out n).1
  have r1 : ∀ n, (gw n).cell? ⟨w.heap.size + 1, 1, none⟩ = some (.int .i64 i.arg) := fun n => (C.out n).2.1
  have r2 : ∀ n, (gw n).cell? ⟨w.heap.size + 1, 2, none⟩ = some (.int .i64 yk) := fun n => (C.out n).2.2.1
  have r3 : ∀ n, (gw n).cell? ⟨w.heap.size + 1, 3, none⟩ = some (.int .i64 yn) := fun n => (C.out n).2.2.2.1
  have r4 : ∀ n, (gw n).cell? ⟨w.heap.size + 1, 4, none⟩ = some (.string ys) := fun n => (C.out n).2.2.2.2.1
  have r5 : ∀ n, (gw n).cell? ⟨w.heap.size + 1, 5, none⟩ = some (.slice yA ym yc) := fun n => (C.out n).2.2.2.2.2.1
  have r6 : ∀ n, (gw n).cell? ⟨w.heap.size + 1, 6, none⟩ = some (.int .i64 i.to) := fun n => (C.out n).2.2.2.2.2.2
  repeat (go_big_quiet_step ((first | (go_at_call 209; exact later_of HC (impl_argMost p ⟨gA, gc, lA, lc, pA, pc, eA, ec, iA, ic⟩ _ (HP.out.belowA (below_then B0.out (HG.out _))) _)))))
  refine wpQuiet_nil ?_
  intro _ hw'
  obtain ⟨nq, hw''⟩ := hw'
  subst hw''
  go_wp2_with fail
  refine (impl_isZeroTerm i.term yk yn ys yA ym yc _ (HT.out.belowA (below_then B0.out (HG.out _)))).mono ?_
  rintro e w1 ⟨rfl, b1⟩
  have BB : Hid (Below w.heap.size w w1) := Lib.hid (below_then (below_then B0.out (HG.out _)) b1)
  have BX := Lib.hid ((P.out _).below b1)
  have CX := Lib.hid ((C.out _).below b1)
  rw [H3.out]
  clear b1 p0 p1 p2 p3 p4 r0 r1 r2 r3 r4 r5 r6
  obtain ⟨p0, p1, p2, p3, p4⟩ := BX.out
  obtain ⟨r0, r1, r2, r3, r4, r5, r6⟩ := CX.out
  simp only at p0 p1 p2 p3 p4 r0 r1 r2 r3 r4 r5 r6
  have F : Hid (insB p i b0 (e0 - 1) = (i.to == 0)) := Lib.hid (by rw [FIN.out, tgtB_none (by rw [hopH.out]; simp)])
  go_wp2_with fail
  go_ret
  exact ⟨ret_bool F.out.symm, BB.out⟩
set_option maxHeartbeats 3200000 in
set_option maxRecDepth 100000 in
theorem impl_insRight_6 (p : Cd) (x : V5) (i : Ic) (y : V7) (b0 e0 : Int) (w : World) (hp : CdIs w x p) (hI : IcIs AnyB w y i) (hop : i.op = 6) (htt : totT i.term ≤ 1048576) :
    Calls Tryd.prog 163 #[x.val p, .agg #[.int .i64 y.op, .int .i64 y.arg, .int .i64 y.k, .int .i64 y.n, .string y.s, .slice y.A y.m y.c, .int .i64 y.to], .int .i64 b0, .int .i64 e0] w fun e w' => e = .returned (.bool (insB p i b0 (e0 - 1))) ∧ Below w.heap.size w w' := by
  obtain ⟨gA, gc, lA, lc, pA, pc, eA, ec, iA, ic⟩ := x
  obtain ⟨yo, ya, yk, yn, ys, yA, ym, yc, yt⟩ := y
  have HP := Lib.hid hp
  obtain ⟨ho, ha, hto, _, _, _, hT⟩ := hI
  simp only [V7.term] at ho ha hto hT
  have HT := Lib.hid hT
  have hnd : nodes i.term ≤ 10000000 := by have := nodes_tot i.term; omega
  clear hT hp htt
  subst ha hto
  unfold V5.val
  simp only
  have hopH := Lib.hid hop
  rw [hop] at ho
  subst ho
  have AM : Hid (argM p i.op = argM p 6) := Lib.hid (by rw [hop])
  have Q1 : Hid (inB i.op 1 9 = true) := Lib.hid (by rw [hop]; rfl)
  clear hop
  have B0 : Hid (Below w.heap.size w ((w.alloc (.cells #[.slice gA p.globals.length gc, .slice lA p.locks.length lc, .slice pA p.procs.length pc, .slice eA p.entry.length ec, .slice iA p.ins.length ic] 59)).alloc (.cells #[.int .i64 6, .int .i64 i.arg, .int .i64 yk, .int .i64 yn, .string ys, .slice yA ym yc, .int .i64 i.to] 130))) := Lib.hid (by repeat' (first | exact Below.refl _ _ | exact Nat.le_refl _ | (refine Below.alloc ?_ ?_ _) | (refine Below.setCell ?_ ?_ _) | (refine Below.drew ?_) | (refine below_drewN ?_ _) | assumption | (simp; done) | (simp; omega)))
  have BX0 : Hid (Box5 ((w.alloc (.cells #[.slice gA p.globals.length gc, .slice lA p.locks.length lc, .slice pA p.procs.length pc, .slice eA p.entry.length ec, .slice iA p.ins.length ic] 59)).alloc (.cells #[.int .i64 6, .int .i64 i.arg, .int .i64 yk, .int .i64 yn, .string ys, .slice yA ym yc, .int .i64 i.to] 130)) w.heap.size ⟨gA, gc, lA, lc, pA, pc, eA, ec, iA, ic⟩ p) := Lib.hid ((Box5.new w ⟨gA, gc, lA, lc, pA, pc, eA, ec, iA, ic⟩ p _).below (Below.alloc (Below.refl _ _) (Nat.le_refl _) _))
  have CX0 : Hid (Cells7 ((w.alloc (.cells #[.slice gA p.globals.length gc, .slice lA p.locks.length lc, .slice pA p.procs.length pc, .slice eA p.entry.length ec, .slice iA p.ins.length ic] 59)).alloc (.cells #[.int .i64 6, .int .i64 i.arg, .int .i64 yk, .int .i64 yn, .string ys, .slice yA ym yc, .int .i64 i.to] 130)) (w.heap.size + 1) 0 ⟨6, i.arg, yk, yn, ys, yA, ym, yc, i.to⟩) := Lib.hid (by
    have := Cells7.new (w.alloc (.cells #[.slice gA p.globals.length gc, .slice lA p.locks.length lc, .slice pA p.procs.length pc, .slice eA p.entry.length ec, .slice iA p.ins.length ic] 59)) ⟨6, i.arg, yk, yn, ys, yA, ym, yc, i.to⟩ 130
    rwa [World.size_alloc] at this)
  by_cases l3 : i.arg < 0
  · have l3' : decide (i.arg < 0) = true := decide_eq_true l3
    have F : Hid (insB p i b0 (e0 - 1) = false) := Lib.hid (arg_bad (by omega))
    go_enter Tryd.func163, Tryd.ntmps163
    go_wp2_with fail
    refine wp_region_later (by kernel_rfl) (by kernel_rfl) ?_
    intro gw hgw hcw
    have HG := Lib.hid hgw
    have HC := Lib.hid hcw
    clear hgw hcw
    have P := Lib.hid (fun n => BX0.out.below (HG.out n))
    have C := Lib.hid (fun n => CX0.out.below (HG.out n))
    have p0 : ∀ n, (gw n).cell? ⟨w.heap.size, 0, none⟩ = some (.slice gA p.globals.length gc) := fun n => (P.out n).1
    have p1 : ∀ n, (gw n).cell? ⟨w.heap.size, 1, none⟩ = some (.slice lA p.locks.length lc) := fun n => (P.out n).2.1
    have p2 : ∀ n, (gw n).cell? ⟨w.heap.size, 2, none⟩ = some (.slice pA p.procs.length pc) := fun n => (P.out n).2.2.1
    have p3 : ∀ n, (gw n).cell? ⟨w.heap.size, 3, none⟩ = some (.slice eA p.entry.length ec) := fun n => (P.out n).2.2.2.1
    have p4 : ∀ n, (gw n).cell? ⟨w.heap.size, 4, none⟩ = some (.slice iA p.ins.length ic) := fun n => (P.out n).2.2.2.2
    have r0 : ∀ n, (gw n).cell? ⟨w.heap.size + 1, 0, none⟩ = some (.int .i64 6) := fun n => (C.out n).1
    have r1 : ∀ n, (gw n).cell? ⟨w.heap.size + 1, 1, none⟩ = some (.int .i64 i.arg) := fun n => (C.out n).2.1
    have r2 : ∀ n, (gw n).cell? ⟨w.heap.size + 1, 2, none⟩ = some (.int .i64 yk) := fun n => (C.out n).2.2.1
    have r3 : ∀ n, (gw n).cell? ⟨w.heap.size + 1, 3, none⟩ = some (.int .i64 yn) := fun n => (C.out n).2.2.2.1
    have r4 : ∀ n, (gw n).cell? ⟨w.heap.size + 1, 4, none⟩ = some (.string ys) := fun n => (C.out n).2.2.2.2.1
    have r5 : ∀ n, (gw n).cell? ⟨w.heap.size + 1, 5, none⟩ = some (.slice yA ym yc) := fun n => (C.out n).2.2.2.2.2.1
    have r6 : ∀ n, (gw n).cell? ⟨w.heap.size + 1, 6, none⟩ = some (.int .i64 i.to) := fun n => (C.out n).2.2.2.2.2.2
    repeat (go_big_quiet_step ((first | (go_at_call 209; exact later_of HC (impl_argMost p ⟨gA, gc, lA, lc, pA, pc, eA, ec, iA, ic⟩ _ (HP.out.belowA (below_then B0.out (HG.out _))) _)))))
    refine wpQuiet_nil ?_
    intro _ hw'
    obtain ⟨nq, hw''⟩ := hw'
    subst hw''
    go_wp2_with fail
    go_ret
    exact ⟨ret_bool F.out.symm, below_then B0.out (HG.out _)⟩
  have l3' : decide (i.arg < 0) = false := decide_no l3
  by_cases l4 : argM p 6 ≤ i.arg
  · have l4' : decide (argM p 6 ≤ i.arg) = true := decide_eq_true l4
    have F : Hid (insB p i b0 (e0 - 1) = false) := Lib.hid (arg_bad (by rw [AM.out]; omega))
    go_enter Tryd.func163, Tryd.ntmps163
    go_wp2_with fail
    refine wp_region_later (by kernel_rfl) (by kernel_rfl) ?_
    intro gw hgw hcw
    have HG := Lib.hid hgw
    have HC := Lib.hid hcw
    clear hgw hcw
    have P := Lib.hid (fun n => BX0.out.below (HG.out n))
    have C := Lib.hid (fun n => CX0.out.below (HG.out n))
    have p0 : ∀ n, (gw n).cell? ⟨w.heap.size, 0, none⟩ = some (.slice gA p.globals.length gc) := fun n => (P.out n).1
    have p1 : ∀ n, (gw n).cell? ⟨w.heap.size, 1, none⟩ = some (.slice lA p.locks.length lc) := fun n => (P.out n).2.1
    have p2 : ∀ n, (gw n).cell? ⟨w.heap.size, 2, none⟩ = some (.slice pA p.procs.length pc) := fun n => (P.out n).2.2.1
    have p3 : ∀ n, (gw n).cell? ⟨w.heap.size, 3, none⟩ = some (.slice eA p.entry.length ec) := fun n => (P.out n).2.2.2.1
    have p4 : ∀ n, (gw n).cell? ⟨w.heap.size, 4, none⟩ = some (.slice iA p.ins.length ic) := fun n => (P.out n).2.2.2.2
    have r0 : ∀ n, (gw n).cell? ⟨w.heap.size + 1, 0, none⟩ = some (.int .i64 6) := fun n => (C.out n).1
    have r1 : ∀ n, (gw n).cell? ⟨w.heap.size + 1, 1, none⟩ = some (.int .i64 i.arg) := fun n => (C.out n).2.1
    have r2 : ∀ n, (gw n).cell? ⟨w.heap.size + 1, 2, none⟩ = some (.int .i64 yk) := fun n => (C.out n).2.2.1
    have r3 : ∀ n, (gw n).cell? ⟨w.heap.size + 1, 3, none⟩ = some (.int .i64 yn) := fun n => (C.out n).2.2.2.1
    have r4 : ∀ n, (gw n).cell? ⟨w.heap.size + 1, 4, none⟩ = some (.string ys) := fun n => (C.out n).2.2.2.2.1
    have r5 : ∀ n, (gw n).cell? ⟨w.heap.size + 1, 5, none⟩ = some (.slice yA ym yc) := fun n => (C.out n).2.2.2.2.2.1
    have r6 : ∀ n, (gw n).cell? ⟨w.heap.size + 1, 6, none⟩ = some (.int .i64 i.to) := fun n => (C.out n).2.2.2.2.2.2
    repeat (go_big_quiet_step ((first | (go_at_call 209; exact later_of HC (impl_argMost p ⟨gA, gc, lA, lc, pA, pc, eA, ec, iA, ic⟩ _ (HP.out.belowA (below_then B0.out (HG.out _))) _)))))
    refine wpQuiet_nil ?_
    intro _ hw'
    obtain ⟨nq, hw''⟩ := hw'
    subst hw''
    go_wp2_with fail
    go_ret
    exact ⟨ret_bool F.out.symm, below_then B0.out (HG.out _)⟩
  have l4' : decide (argM p 6 ≤ i.arg) = false := decide_no l4
  have Q2 : Hid (inB i.arg 0 (mostC p i.op) = true) := Lib.hid (arg_good (by omega) (by rw [AM.out]; omega))
  cases h3 : sameB i.term zeroTm with
  | false =>
    have F : Hid (insB p i b0 (e0 - 1) = false) := Lib.hid (insB_trm (by rw [trmB_zero (by rw [hopH.out]; simp)]; exact h3))
    have H3 := Lib.hid h3
    clear h3
    go_enter Tryd.func163, Tryd.ntmps163
    go_wp2_with fail
    refine wp_region_later (by kernel_rfl) (by kernel_rfl) ?_
    intro gw hgw hcw
    have HG := Lib.hid hgw
    have HC := Lib.hid hcw
    clear hgw hcw
    have P := Lib.hid (fun n => BX0.out.below (HG.out n))
    have C := Lib.hid (fun n => CX0.out.below (HG.out n))
    have p0 : ∀ n, (gw n).cell? ⟨w.heap.size, 0, none⟩ = some (.slice gA p.globals.length gc) := fun n => (P.out n).1
    have p1 : ∀ n, (gw n).cell? ⟨w.heap.size, 1, none⟩ = some (.slice lA p.locks.length lc) := fun n => (P.out n).2.1
    have p2 : ∀ n, (gw n).cell? ⟨w.heap.size, 2, none⟩ = some (.slice pA p.procs.length pc) := fun n => (P.out n).2.2.1
    have p3 : ∀ n, (gw n).cell? ⟨w.heap.size, 3, none⟩ = some (.slice eA p.entry.length ec) := fun n => (P.out n).2.2.2.1
    have p4 : ∀ n, (gw n).cell? ⟨w.heap.size, 4, none⟩ = some (.slice iA p.ins.length ic) := fun n => (P.out n).2.2.2.2
    have r0 : ∀ n, (gw n).cell? ⟨w.heap.size + 1, 0, none⟩ = some (.int .i64 6) := fun n => (C.out n).1
    have r1 : ∀ n, (gw n).cell? ⟨w.heap.size + 1, 1, none⟩ = some (.int .i64 i.arg) := fun n => (C.out n).2.1
    have r2 : ∀ n, (gw n).cell? ⟨w.heap.size + 1, 2, none⟩ = some (.int .i64 yk) := fun n => (C.out n).2.2.1
    have r3 : ∀ n, (gw n).cell? ⟨w.heap.size + 1, 3, none⟩ = some (.int .i64 yn) := fun n => (C.out n).2.2.2.1
    have r4 : ∀ n, (gw n).cell? ⟨w.heap.size + 1, 4, none⟩ = some (.string ys) := fun n => (C.out n).2.2.2.2.1
    have r5 : ∀ n, (gw n).cell? ⟨w.heap.size + 1, 5, none⟩ = some (.slice yA ym yc) := fun n => (C.out n).2.2.2.2.2.1
    have r6 : ∀ n, (gw n).cell? ⟨w.heap.size + 1, 6, none⟩ = some (.int .i64 i.to) := fun n => (C.out n).2.2.2.2.2.2
    repeat (go_big_quiet_step ((first | (go_at_call 209; exact later_of HC (impl_argMost p ⟨gA, gc, lA, lc, pA, pc, eA, ec, iA, ic⟩ _ (HP.out.belowA (below_then B0.out (HG.out _))) _)))))
    refine wpQuiet_nil ?_
    intro _ hw'
    obtain ⟨nq, hw''⟩ := hw'
    subst hw''
    go_wp2_with fail
    refine (impl_isZeroTerm i.term yk yn ys yA ym yc _ (HT.out.belowA (below_then B0.out (HG.out _)))).mono ?_
    rintro e w1 ⟨rfl, b1⟩
    have BB : Hid (Below w.heap.size w w1) := Lib.hid (below_then (below_then B0.out (HG.out _)) b1)
    have BX := Lib.hid ((P.out _).below b1)
    have CX := Lib.hid ((C.out _).below b1)
    rw [H3.out]
    clear b1 p0 p1 p2 p3 p4 r0 r1 r2 r3 r4 r5 r6
    go_wp2_with fail
    go_ret
    exact ⟨ret_bool F.out.symm, BB.out⟩
  | true =>
  have FIN : Hid (insB p i b0 (e0 - 1) = tgtB i b0 (e0 - 1)) := Lib.hid (insB_fin Q1.out Q2.out (by rw [trmB_zero (by rw [hopH.out]; simp)]; exact h3))
  have H3 := Lib.hid h3
  clear h3
  go_enter Tryd.func163, Tryd.ntmps163
  go_wp2_with fail
  refine wp_region_later (by kernel_rfl) (by kernel_rfl) ?_
  intro gw hgw hcw
  have HG := Lib.hid hgw
  have HC := Lib.hid hcw
  clear hgw hcw
  have P := Lib.hid (fun n => BX0.out.below (HG.out n))
  have C := Lib.hid (fun n => CX0.out.below (HG.out n))
  have p0 : ∀ n, (gw n).cell? ⟨w.heap.size, 0, none⟩ = some (.slice gA p.globals.length gc) := fun n => (P.out n).1
  have p1 : ∀ n, (gw n).cell? ⟨w.heap.size, 1, none⟩ = some (.slice lA p.locks.length lc) := fun n => (P.out n).2.1
  have p2 : ∀ n, (gw n).cell? ⟨w.heap.size, 2, none⟩ = some (.slice pA p.procs.length pc) := fun n => (P.out n).2.2.1
  have p3 : ∀ n, (gw n).cell? ⟨w.heap.size, 3, none⟩ = some (.slice eA p.entry.length ec) := fun n => (P.out n).2.2.2.1
  have p4 : ∀ n, (gw n).cell? ⟨w.heap.size, 4, none⟩ = some (.slice iA p.ins.length ic) := fun n => (P.out n).2.2.2.2
  have r0 : ∀ n, (gw n).cell? ⟨w.heap.size + 1, 0, none⟩ = some (.int .i64 6) := fun n => (C.out n).1
  have r1 : ∀ n, (gw n).cell? ⟨w.heap.size + 1, 1, none⟩ = some (.int .i64 i.arg) := fun n => (C.out n).2.1
  have r2 : ∀ n, (gw n).cell? ⟨w.heap.size + 1, 2, none⟩ = some (.int .i64 yk) := fun n => (C.out n).2.2.1
  have r3 : ∀ n, (gw n).cell? ⟨w.heap.size + 1, 3, none⟩ = some (.int .i64 yn) := fun n => (C.out n).2.2.2.1
  have r4 : ∀ n, (gw n).cell? ⟨w.heap.size + 1, 4, none⟩ = some (.string ys) := fun n => (C.out n).2.2.2.2.1
  have r5 : ∀ n, (gw n).cell? ⟨w.heap.size + 1, 5, none⟩ = some (.slice yA ym yc) := fun n => (C.out n).2.2.2.2.2.1
  have r6 : ∀ n, (gw n).cell? ⟨w.heap.size + 1, 6, none⟩ = some (.int .i64 i.to) := fun n => (C.out n).2.2.2.2.2.2
  repeat (go_big_quiet_step ((first | (go_at_call 209; exact later_of HC (impl_argMost p ⟨gA, gc, lA, lc, pA, pc, eA, ec, iA, ic⟩ _ (HP.out.belowA (below_then B0.out (HG.out _))) _)))))
  refine wpQuiet_nil ?_
  intro _ hw'
  obtain ⟨nq, hw''⟩ := hw'
  subst hw''
  go_wp2_with fail
  refine (impl_isZeroTerm i.term yk yn ys yA ym yc _ (HT.out.belowA (below_then B0.out (HG.out _)))).mono ?_
  rintro e w1 ⟨rfl, b1⟩
  have BB : Hid (Below w.heap.size w w1) := Lib.hid (below_then (below_then B0.out (HG.out _)) b1)
  have BX := Lib.hid ((P.out _).below b1)
  have CX := Lib.hid ((C.out _).below b1)
  rw [H3.out]
  clear b1 p0 p1 p2 p3 p4 r0 r1 r2 r3 r4 r5 r6
  obtain ⟨p0, p1, p2, p3, p4⟩ := BX.out
  obtain ⟨r0, r1, r2, r3, r4, r5, r6⟩ := CX.out
  simp only at p0 p1 p2 p3 p4 r0 r1 r2 r3 r4 r5 r6
  have F : Hid (insB p i b0 (e0 - 1) = (i.to == 0)) := Lib.hid (by rw [FIN.out, tgtB_none (by rw [hopH.out]; simp)])
  go_wp2_with fail
  go_ret
  exact ⟨ret_bool F.out.symm, BB.out⟩
set_option maxHeartbeats 3200000 in
set_option maxRecDepth 100000 in
theorem impl_insRight_7 (p : Cd) (x : V5) (i : Ic) (y : V7) (b0 e0 : Int) (w : World) (hp : CdIs w x p) (hI : IcIs AnyB w y i) (hop : i.op = 7) (htt : totT i.term ≤ 1048576) :
    Calls Tryd.prog 163 #[x.val p, .agg #[.int .i64 y.op, .int .i64 y.arg, .int .i64 y.k, .int .i64 y.n, .string y.s, .slice y.A y.m y.c, .int .i64 y.to], .int .i64 b0, .int .i64 e0] w fun e w' => e = .returned (.bool (insB p i b0 (e0 - 1))) ∧ Below w.heap.size w w' := by
  obtain ⟨gA, gc, lA, lc, pA, pc, eA, ec, iA, ic⟩ := x
  obtain ⟨yo, ya, yk, yn, ys, yA, ym, yc, yt⟩ := y
  have HP := Lib.hid hp
  obtain ⟨ho, ha, hto, _, _, _, hT⟩ := hI
  simp only [V7.term] at ho ha hto hT
  have HT := Lib.hid hT
  have hnd : nodes i.term ≤ 10000000 := by have := nodes_tot i.term; omega
  clear hT hp htt
  subst ha hto
  unfold V5.val
  simp only
  have hopH := Lib.hid hop
  rw [hop] at ho
  subst ho
  have AM : Hid (argM p i.op = argM p 7) := Lib.hid (by rw [hop])
  have Q1 : Hid (inB i.op 1 9 = true) := Lib.hid (by rw [hop]; rfl)
  clear hop
  have B0 : Hid (Below w.heap.size w ((w.alloc (.cells #[.slice gA p.globals.length gc, .slice lA p.locks.length lc, .slice pA p.procs.length pc, .slice eA p.entry.length ec, .slice iA p.ins.length ic] 59)).alloc (.cells #[.int .i64 7, .int .i64 i.arg, .int .i64 yk, .int .i64 yn, .string ys, .slice yA ym yc, .int .i64 i.to] 130))) := Lib.hid (by repeat' (first | exact Below.refl _ _ | exact Nat.le_refl _ | (refine Below.alloc ?_ ?_ _) | (refine Below.setCell ?_ ?_ _) | (refine Below.drew ?_) | (refine below_drewN ?_ _) | assumption | (simp; done) | (simp; omega)))
  have BX0 : Hid (Box5 ((w.alloc (.cells #[.slice gA p.globals.length gc, .slice lA p.locks.length lc, .slice pA p.procs.length pc, .slice eA p.entry.length ec, .slice iA p.ins.length ic] 59)).alloc (.cells #[.int .i64 7, .int .i64 i.arg, .int .i64 yk, .int .i64 yn, .string ys, .slice yA ym yc, .int .i64 i.to] 130)) w.heap.size ⟨gA, gc, lA, lc, pA, pc, eA, ec, iA, ic⟩ p) := Lib.hid ((Box5.new w ⟨gA, gc, lA, lc, pA, pc, eA, ec, iA, ic⟩ p _).below (Below.alloc (Below.refl _ _) (Nat.le_refl _) _))
  have CX0 : Hid (Cells7 ((w.alloc (.cells #[.slice gA p.globals.length gc, .slice lA p.locks.length lc, .slice pA p.procs.length pc, .slice eA p.entry.length ec, .slice iA p.ins.length ic] 59)).alloc (.cells #[.int .i64 7, .int .i64 i.arg, .int .i64 yk, .int .i64 yn, .string ys, .slice yA ym yc, .int .i64 i.to] 130)) (w.heap.size + 1) 0 ⟨7, i.arg, yk, yn, ys, yA, ym, yc, i.to⟩) := Lib.hid (by
    have := Cells7.new (w.alloc (.cells #[.slice gA p.globals.length gc, .slice lA p.locks.length lc, .slice pA p.procs.length pc, .slice eA p.entry.length ec, .slice iA p.ins.length ic] 59)) ⟨7, i.arg, yk, yn, ys, yA, ym, yc, i.to⟩ 130
    rwa [World.size_alloc] at this)
  by_cases l3 : i.arg < 0
  · have l3' : decide (i.arg < 0) = true := decide_eq_true l3
    have F : Hid (insB p i b0 (e0 - 1) = false) := Lib.hid (arg_bad (by omega))
    go_enter Tryd.func163, Tryd.ntmps163
    go_wp2_with fail
    refine wp_region_later (by kernel_rfl) (by kernel_rfl) ?_
    intro gw hgw hcw
    have HG := Lib.hid hgw
    have HC := Lib.hid hcw
    clear hgw hcw
    have P := Lib.hid (fun n => BX0.out.below (HG.out n))
    have C := Lib.hid (fun n => CX0.out.below (HG.out n))
    have p0 : ∀ n, (gw n).cell? ⟨w.heap.size, 0, none⟩ = some (.slice gA p.globals.length gc) := fun n => (P.out n).1
    have p1 : ∀ n, (gw n).cell? ⟨w.heap.size, 1, none⟩ = some (.slice lA p.locks.length lc) := fun n => (P.out n).2.1
    have p2 : ∀ n, (gw n).cell? ⟨w.heap.size, 2, none⟩ = some (.slice pA p.procs.length pc) := fun n => (P.out n).2.2.1
    have p3 : ∀ n, (gw n).cell? ⟨w.heap.size, 3, none⟩ = some (.slice eA p.entry.length ec) := fun n => (P.out n).2.2.2.1
    have p4 : ∀ n, (gw n).cell? ⟨w.heap.size, 4, none⟩ = some (.slice iA p.ins.length ic) := fun n => (P.out n).2.2.2.2
    have r0 : ∀ n, (gw n).cell? ⟨w.heap.size + 1, 0, none⟩ = some (.int .i64 7) := fun n => (C.out n).1
    have r1 : ∀ n, (gw n).cell? ⟨w.heap.size + 1, 1, none⟩ = some (.int .i64 i.arg) := fun n => (C.out n).2.1
    have r2 : ∀ n, (gw n).cell? ⟨w.heap.size + 1, 2, none⟩ = some (.int .i64 yk) := fun n => (C.out n).2.2.1
    have r3 : ∀ n, (gw n).cell? ⟨w.heap.size + 1, 3, none⟩ = some (.int .i64 yn) := fun n => (C.out n).2.2.2.1
    have r4 : ∀ n, (gw n).cell? ⟨w.heap.size + 1, 4, none⟩ = some (.string ys) := fun n => (C.out n).2.2.2.2.1
    have r5 : ∀ n, (gw n).cell? ⟨w.heap.size + 1, 5, none⟩ = some (.slice yA ym yc) := fun n => (C.out n).2.2.2.2.2.1
    have r6 : ∀ n, (gw n).cell? ⟨w.heap.size + 1, 6, none⟩ = some (.int .i64 i.to) := fun n => (C.out n).2.2.2.2.2.2
    repeat (go_big_quiet_step ((first | (go_at_call 209; exact later_of HC (impl_argMost p ⟨gA, gc, lA, lc, pA, pc, eA, ec, iA, ic⟩ _ (HP.out.belowA (below_then B0.out (HG.out _))) _)))))
    refine wpQuiet_nil ?_
    intro _ hw'
    obtain ⟨nq, hw''⟩ := hw'
    subst hw''
    go_wp2_with fail
    go_ret
    exact ⟨ret_bool F.out.symm, below_then B0.out (HG.out _)⟩
  have l3' : decide (i.arg < 0) = false := decide_no l3
  by_cases l4 : argM p 7 ≤ i.arg
  · have l4' : decide (argM p 7 ≤ i.arg) = true := decide_eq_true l4
    have F : Hid (insB p i b0 (e0 - 1) = false) := Lib.hid (arg_bad (by rw [AM.out]; omega))
    go_enter Tryd.func163, Tryd.ntmps163
    go_wp2_with fail
    refine wp_region_later (by kernel_rfl) (by kernel_rfl) ?_
    intro gw hgw hcw
    have HG := Lib.hid hgw
    have HC := Lib.hid hcw
    clear hgw hcw
    have P := Lib.hid (fun n => BX0.out.below (HG.out n))
    have C := Lib.hid (fun n => CX0.out.below (HG.out n))
    have p0 : ∀ n, (gw n).cell? ⟨w.heap.size, 0, none⟩ = some (.slice gA p.globals.length gc) := fun n => (P.out n).1
    have p1 : ∀ n, (gw n).cell? ⟨w.heap.size, 1, none⟩ = some (.slice lA p.locks.length lc) := fun n => (P.out n).2.1
    have p2 : ∀ n, (gw n).cell? ⟨w.heap.size, 2, none⟩ = some (.slice pA p.procs.length pc) := fun n => (P.out n).2.2.1
    have p3 : ∀ n, (gw n).cell? ⟨w.heap.size, 3, none⟩ = some (.slice eA p.entry.length ec) := fun n => (P.out n).2.2.2.1
    have p4 : ∀ n, (gw n).cell? ⟨w.heap.size, 4, none⟩ = some (.slice iA p.ins.length ic) := fun n => (P.out n).2.2.2.2
    have r0 : ∀ n, (gw n).cell? ⟨w.heap.size + 1, 0, none⟩ = some (.int .i64 7) := fun n => (C.out n).1
    have r1 : ∀ n, (gw n).cell? ⟨w.heap.size + 1, 1, none⟩ = some (.int .i64 i.arg) := fun n => (C.out n).2.1
    have r2 : ∀ n, (gw n).cell? ⟨w.heap.size + 1, 2, none⟩ = some (.int .i64 yk) := fun n => (C.out n).2.2.1
    have r3 : ∀ n, (gw n).cell? ⟨w.heap.size + 1, 3, none⟩ = some (.int .i64 yn) := fun n => (C.out n).2.2.2.1
    have r4 : ∀ n, (gw n).cell? ⟨w.heap.size + 1, 4, none⟩ = some (.string ys) := fun n => (C.out n).2.2.2.2.1
    have r5 : ∀ n, (gw n).cell? ⟨w.heap.size + 1, 5, none⟩ = some (.slice yA ym yc) := fun n => (C.out n).2.2.2.2.2.1
    have r6 : ∀ n, (gw n).cell? ⟨w.heap.size + 1, 6, none⟩ = some (.int .i64 i.to) := fun n => (C.out n).2.2.2.2.2.2
    repeat (go_big_quiet_step ((first | (go_at_call 209; exact later_of HC (impl_argMost p ⟨gA, gc, lA, lc, pA, pc, eA, ec, iA, ic⟩ _ (HP.out.belowA (below_then B0.out (HG.out _))) _)))))
    refine wpQuiet_nil ?_
    intro _ hw'
    obtain ⟨nq, hw''⟩ := hw'
    subst hw''
    go_wp2_with fail
    go_ret
    exact ⟨ret_bool F.out.symm, below_then B0.out (HG.out _)⟩
  have l4' : decide (argM p 7 ≤ i.arg) = false := decide_no l4
  have Q2 : Hid (inB i.arg 0 (mostC p i.op) = true) := Lib.hid (arg_good (by omega) (by rw [AM.out]; omega))
  cases h3 : sameB i.term zeroTm with
  | false =>
    have F : Hid (insB p i b0 (e0 - 1) = false) := Lib.hid (insB_trm (by rw [trmB_zero (by rw [hopH.out]; simp)]; exact h3))
    have H3 := Lib.hid h3
    clear h3
    go_enter Tryd.func163, Tryd.ntmps163
    go_wp2_with fail
    refine wp_region_later (by kernel_rfl) (by kernel_rfl) ?_
    intro gw hgw hcw
    have HG := Lib.hid hgw
    have HC := Lib.hid hcw
    clear hgw hcw
    have P := Lib.hid (fun n => BX0.out.below (HG.out n))
    have C := Lib.hid (fun n => CX0.out.below (HG.out n))
    have p0 : ∀ n, (gw n).cell? ⟨w.heap.size, 0, none⟩ = some (.slice gA p.globals.length gc) := fun n => (P.out n).1
    have p1 : ∀ n, (gw n).cell? ⟨w.heap.size, 1, none⟩ = some (.slice lA p.locks.length lc) := fun n => (P.out n).2.1
    have p2 : ∀ n, (gw n).cell? ⟨w.heap.size, 2, none⟩ = some (.slice pA p.procs.length pc) := fun n => (P.out n).2.2.1
    have p3 : ∀ n, (gw n).cell? ⟨w.heap.size, 3, none⟩ = some (.slice eA p.entry.length ec) := fun n => (P.out n).2.2.2.1
    have p4 : ∀ n, (gw n).cell? ⟨w.heap.size, 4, none⟩ = some (.slice iA p.ins.length ic) := fun n => (P.out n).2.2.2.2
    have r0 : ∀ n, (gw n).cell? ⟨w.heap.size + 1, 0, none⟩ = some (.int .i64 7) := fun n => (C.out n).1
    have r1 : ∀ n, (gw n).cell? ⟨w.heap.size + 1, 1, none⟩ = some (.int .i64 i.arg) := fun n => (C.out n).2.1
    have r2 : ∀ n, (gw n).cell? ⟨w.heap.size + 1, 2, none⟩ = some (.int .i64 yk) := fun n => (C.out n).2.2.1
    have r3 : ∀ n, (gw n).cell? ⟨w.heap.size + 1, 3, none⟩ = some (.int .i64 yn) := fun n => (C.out n).2.2.2.1
    have r4 : ∀ n, (gw n).cell? ⟨w.heap.size + 1, 4, none⟩ = some (.string ys) := fun n => (C.out n).2.2.2.2.1
    have r5 : ∀ n, (gw n).cell? ⟨w.heap.size + 1, 5, none⟩ = some (.slice yA ym yc) := fun n => (C.out n).2.2.2.2.2.1
    have r6 : ∀ n, (gw n).cell? ⟨w.heap.size + 1, 6, none⟩ = some (.int .i64 i.to) := fun n => (C.out n).2.2.2.2.2.2
    repeat (go_big_quiet_step ((first | (go_at_call 209; exact later_of HC (impl_argMost p ⟨gA, gc, lA, lc, pA, pc, eA, ec, iA, ic⟩ _ (HP.out.belowA (below_then B0.out (HG.out _))) _)))))
    refine wpQuiet_nil ?_
    intro _ hw'
    obtain ⟨nq, hw''⟩ := hw'
    subst hw''
    go_wp2_with fail
    refine (impl_isZeroTerm i.term yk yn ys yA ym yc _ (HT.out.belowA (below_then B0.out (HG.out _)))).mono ?_
    rintro e w1 ⟨rfl, b1⟩
    have BB : Hid (Below w.heap.size w w1) := Lib.hid (below_then (below_then B0.out (HG.out _)) b1)
    have BX := Lib.hid ((P.out _).below b1)
    have CX := Lib.hid ((C.out _).below b1)
    rw [H3.out]
    clear b1 p0 p1 p2 p3 p4 r0 r1 r2 r3 r4 r5 r6
    go_wp2_with fail
    go_ret
    exact ⟨ret_bool F.out.symm, BB.out⟩
  | true =>
  have FIN : Hid (insB p i b0 (e0 - 1) = tgtB i b0 (e0 - 1)) := Lib.hid (insB_fin Q1.out Q2.out (by rw [trmB_zero (by rw [hopH.out]; simp)]; exact h3))
  have H3 := Lib.hid h3
  clear h3
  go_enter Tryd.func163, Tryd.ntmps163
  go_wp2_with fail
  refine wp_region_later (by kernel_rfl) (by kernel_rfl) ?_
  intro gw hgw hcw
  have HG := Lib.hid hgw
  have HC := Lib.hid hcw
  clear hgw hcw
  have P := Lib.hid (fun n => BX0.out.below (HG.out n))
  have C := Lib.hid (fun n => CX0.out.below (HG.out n))
  have p0 : ∀ n, (gw n).cell? ⟨w.heap.size, 0, none⟩ = some (.slice gA p.globals.length gc) := fun n => (P.out n).1
  have p1 : ∀ n, (gw n).cell? ⟨w.heap.size, 1, none⟩ = some (.slice lA p.locks.length lc) := fun n => (P.out n).2.1
  have p2 : ∀ n, (gw n).cell? ⟨w.heap.size, 2, none⟩ = some (.slice pA p.procs.length pc) := fun n => (P.out n).2.2.1
  have p3 : ∀ n, (gw n).cell? ⟨w.heap.size, 3, none⟩ = some (.slice eA p.entry.length ec) := fun n => (P.out n).2.2.2.1
  have p4 : ∀ n, (gw n).cell? ⟨w.heap.size, 4, none⟩ = some (.slice iA p.ins.length ic) := fun n => (P.out n).2.2.2.2
  have r0 : ∀ n, (gw n).cell? ⟨w.heap.size + 1, 0, none⟩ = some (.int .i64 7) := fun n => (C.out n).1
  have r1 : ∀ n, (gw n).cell? ⟨w.heap.size + 1, 1, none⟩ = some (.int .i64 i.arg) := fun n => (C.out n).2.1
  have r2 : ∀ n, (gw n).cell? ⟨w.heap.size + 1, 2, none⟩ = some (.int .i64 yk) := fun n => (C.out n).2.2.1
  have r3 : ∀ n, (gw n).cell? ⟨w.heap.size + 1, 3, none⟩ = some (.int .i64 yn) := fun n => (C.out n).2.2.2.1
  have r4 : ∀ n, (gw n).cell? ⟨w.heap.size + 1, 4, none⟩ = some (.string ys) := fun n => (C.out n).2.2.2.2.1
  have r5 : ∀ n, (gw n).cell? ⟨w.heap.size + 1, 5, none⟩ = some (.slice yA ym yc) := fun n => (C.out n).2.2.2.2.2.1
  have r6 : ∀ n, (gw n).cell? ⟨w.heap.size + 1, 6, none⟩ = some (.int .i64 i.to) := fun n => (C.out n).2.2.2.2.2.2
  repeat (go_big_quiet_step ((first | (go_at_call 209; exact later_of HC (impl_argMost p ⟨gA, gc, lA, lc, pA, pc, eA, ec, iA, ic⟩ _ (HP.out.belowA (below_then B0.out (HG.out _))) _)))))
  refine wpQuiet_nil ?_
  intro _ hw'
  obtain ⟨nq, hw''⟩ := hw'
  subst hw''
  go_wp2_with fail
  refine (impl_isZeroTerm i.term yk yn ys yA ym yc _ (HT.out.belowA (below_then B0.out (HG.out _)))).mono ?_
  rintro e w1 ⟨rfl, b1⟩
  have BB : Hid (Below w.heap.size w w1) := Lib.hid (below_then (below_then B0.out (HG.out _)) b1)
  have BX := Lib.hid ((P.out _).below b1)
  have CX := Lib.hid ((C.out _).below b1)
  rw [H3.out]
  clear b1 p0 p1 p2 p3 p4 r0 r1 r2 r3 r4 r5 r6
  obtain ⟨p0, p1, p2, p3, p4⟩ := BX.out
  obtain ⟨r0, r1, r2, r3, r4, r5, r6⟩ := CX.out
  simp only at p0 p1 p2 p3 p4 r0 r1 r2 r3 r4 r5 r6
  have F : Hid (insB p i b0 (e0 - 1) = (i.to == 0)) := Lib.hid (by rw [FIN.out, tgtB_none (by rw [hopH.out]; simp)])
  go_wp2_with fail
  go_ret
  exact ⟨ret_bool F.out.symm, BB.out⟩
set_option maxHeartbeats 3200000 in
set_option maxRecDepth 100000 in
theorem impl_insRight_o (p : Cd) (x : V5) (i : Ic) (y : V7) (b0 e0 : Int) (w : World) (hp : CdIs w x p) (hI : IcIs AnyB w y i) (h1 : i.op ≠ 1) (h2 : i.op ≠ 2) (h3 : i.op ≠ 3) (h4 : i.op ≠ 4) (h5 : i.op ≠ 5) (h6 : i.op ≠ 6) (h7 : i.op ≠ 7) (htt : totT i.term ≤ 1048576) :
    Calls Tryd.prog 163 #[x.val p, .agg #[.int .i64 y.op, .int .i64 y.arg, .int .i64 y.k, .int .i64 y.n, .string y.s, .slice y.A y.m y.c, .int .i64 y.to], .int .i64 b0, .int .i64 e0] w fun e w' => e = .returned (.bool (insB p i b0 (e0 - 1))) ∧ Below w.heap.size w w' := by
  obtain ⟨gA, gc, lA, lc, pA, pc, eA, ec, iA, ic⟩ := x
  obtain ⟨yo, ya, yk, yn, ys, yA, ym, yc, yt⟩ := y
  have HP := Lib.hid hp
  obtain ⟨ho, ha, hto, _, _, _, hT⟩ := hI
  simp only [V7.term] at ho ha hto hT
  have HT := Lib.hid hT
  have hnd : nodes i.term ≤ 10000000 := by have := nodes_tot i.term; omega
  clear hT hp htt
  subst ha hto
  unfold V5.val
  simp only
  subst ho
  have NO := Lib.hid (And.intro h1 (And.intro h2 (And.intro h3 (And.intro h4 (And.intro h5 (And.intro h6 h7))))))
  have f1 : (i.op == 1) = false := by simpa using h1
  have f2 : (i.op == 2) = false := by simpa using h2
  have f3 : (i.op == 3) = false := by simpa using h3
  have AM : Hid (argM p i.op = argM p i.op) := Lib.hid rfl
  clear h1 h2 h3 h4 h5 h6 h7
  have B0 : Hid (Below w.heap.size w ((w.alloc (.cells #[.slice gA p.globals.length gc, .slice lA p.locks.length lc, .slice pA p.procs.length pc, .slice eA p.entry.length ec, .slice iA p.ins.length ic] 59)).alloc (.cells #[.int .i64 i.op, .int .i64 i.arg, .int .i64 yk, .int .i64 yn, .string ys, .slice yA ym yc, .int .i64 i.to] 130))) := Lib.hid (by repeat' (first | exact Below.refl _ _ | exact Nat.le_refl _ | (refine Below.alloc ?_ ?_ _) | (refine Below.setCell ?_ ?_ _) | (refine Below.drew ?_) | (refine below_drewN ?_ _) | assumption | (simp; done) | (simp; omega)))
  have BX0 : Hid (Box5 ((w.alloc (.cells #[.slice gA p.globals.length gc, .slice lA p.locks.length lc, .slice pA p.procs.length pc, .slice eA p.entry.length ec, .slice iA p.ins.length ic] 59)).alloc (.cells #[.int .i64 i.op, .int .i64 i.arg, .int .i64 yk, .int .i64 yn, .string ys, .slice yA ym yc, .int .i64 i.to] 130)) w.heap.size ⟨gA, gc, lA, lc, pA, pc, eA, ec, iA, ic⟩ p) := Lib.hid ((Box5.new w ⟨gA, gc, lA, lc, pA, pc, eA, ec, iA, ic⟩ p _).below (Below.alloc (Below.refl _ _) (Nat.le_refl _) _))
  have CX0 : Hid (Cells7 ((w.alloc (.cells #[.slice gA p.globals.length gc, .slice lA p.locks.length lc, .slice pA p.procs.length pc, .slice eA p.entry.length ec, .slice iA p.ins.length ic] 59)).alloc (.cells #[.int .i64 i.op, .int .i64 i.arg, .int .i64 yk, .int .i64 yn, .string ys, .slice yA ym yc, .int .i64 i.to] 130)) (w.heap.size + 1) 0 ⟨i.op, i.arg, yk, yn, ys, yA, ym, yc, i.to⟩) := Lib.hid (by
    have := Cells7.new (w.alloc (.cells #[.slice gA p.globals.length gc, .slice lA p.locks.length lc, .slice pA p.procs.length pc, .slice eA p.entry.length ec, .slice iA p.ins.length ic] 59)) ⟨i.op, i.arg, yk, yn, ys, yA, ym, yc, i.to⟩ 130
    rwa [World.size_alloc] at this)
  by_cases l1 : i.op < 1
  · have l1' : decide (i.op < 1) = true := decide_eq_true l1
    have F : Hid (insB p i b0 (e0 - 1) = false) := Lib.hid (op_bad (.inl l1))
    go_enter Tryd.func163, Tryd.ntmps163
    go_wp2_with fail
    refine wp_region_later (by kernel_rfl) (by kernel_rfl) ?_
    intro gw hgw hcw
    have HG := Lib.hid hgw
    have HC := Lib.hid hcw
    clear hgw hcw
    have P := Lib.hid (fun n => BX0.out.below (HG.out n))
    have C := Lib.hid (fun n => CX0.out.below (HG.out n))
    have p0 : ∀ n, (gw n).cell? ⟨w.heap.size, 0, none⟩ = some (.slice gA p.globals.length gc) := fun n => (P.out n).1
    have p1 : ∀ n, (gw n).cell? ⟨w.heap.size, 1, none⟩ = some (.slice lA p.locks.length lc) := fun n => (P.out n).2.1
    have p2 : ∀ n, (gw n).cell? ⟨w.heap.size, 2, none⟩ = some (.slice pA p.procs.length pc) := fun n => (P.out n).2.2.1
    have p3 : ∀ n, (gw n).cell? ⟨w.heap.size, 3, none⟩ = some (.slice eA p.entry.length ec) := fun n => (P.out n).2.2.2.1
    have p4 : ∀ n, (gw n).cell? ⟨w.heap.size, 4, none⟩ = some (.slice iA p.ins.length ic) := fun n => (P.out n).2.2.2.2
    have r0 : ∀ n, (gw n).cell? ⟨w.heap.size + 1, 0, none⟩ = some (.int .i64 i.op) := fun n => (C.out n).1
    have r1 : ∀ n, (gw n).cell? ⟨w.heap.size + 1, 1, none⟩ = some (.int .i64 i.arg) := fun n => (C.out n).2.1
    have r2 : ∀ n, (gw n).cell? ⟨w.heap.size + 1, 2, none⟩ = some (.int .i64 yk) := fun n => (C.out n).2.2.1
    have r3 : ∀ n, (gw n).cell? ⟨w.heap.size + 1, 3, none⟩ = some (.int .i64 yn) := fun n => (C.out n).2.2.2.1
    have r4 : ∀ n, (gw n).cell? ⟨w.heap.size + 1, 4, none⟩ = some (.string ys) := fun n => (C.out n).2.2.2.2.1
    have r5 : ∀ n, (gw n).cell? ⟨w.heap.size + 1, 5, none⟩ = some (.slice yA ym yc) := fun n => (C.out n).2.2.2.2.2.1
    have r6 : ∀ n, (gw n).cell? ⟨w.heap.size + 1, 6, none⟩ = some (.int .i64 i.to) := fun n => (C.out n).2.2.2.2.2.2
    repeat (go_big_quiet_step ((first | (go_at_call 209; exact later_of HC (impl_argMost p ⟨gA, gc, lA, lc, pA, pc, eA, ec, iA, ic⟩ _ (HP.out.belowA (below_then B0.out (HG.out _))) _)))))
    refine wpQuiet_nil ?_
    intro _ hw'
    obtain ⟨nq, hw''⟩ := hw'
    subst hw''
    go_wp2_with fail
    go_ret
    exact ⟨ret_bool F.out.symm, below_then B0.out (HG.out _)⟩
  have l1' : decide (i.op < 1) = false := decide_no l1
  by_cases l2 : 9 < i.op
  · have l2' : decide (9 < i.op) = true := decide_eq_true l2
    have F : Hid (insB p i b0 (e0 - 1) = false) := Lib.hid (op_bad (.inr l2))
    go_enter Tryd.func163, Tryd.ntmps163
    go_wp2_with fail
    refine wp_region_later (by kernel_rfl) (by kernel_rfl) ?_
    intro gw hgw hcw
    have HG := Lib.hid hgw
    have HC := Lib.hid hcw
    clear hgw hcw
    have P := Lib.hid (fun n => BX0.out.below (HG.out n))
    have C := Lib.hid (fun n => CX0.out.below (HG.out n))
    have p0 : ∀ n, (gw n).cell? ⟨w.heap.size, 0, none⟩ = some (.slice gA p.globals.length gc) := fun n => (P.out n).1
    have p1 : ∀ n, (gw n).cell? ⟨w.heap.size, 1, none⟩ = some (.slice lA p.locks.length lc) := fun n => (P.out n).2.1
    have p2 : ∀ n, (gw n).cell? ⟨w.heap.size, 2, none⟩ = some (.slice pA p.procs.length pc) := fun n => (P.out n).2.2.1
    have p3 : ∀ n, (gw n).cell? ⟨w.heap.size, 3, none⟩ = some (.slice eA p.entry.length ec) := fun n => (P.out n).2.2.2.1
    have p4 : ∀ n, (gw n).cell? ⟨w.heap.size, 4, none⟩ = some (.slice iA p.ins.length ic) := fun n => (P.out n).2.2.2.2
    have r0 : ∀ n, (gw n).cell? ⟨w.heap.size + 1, 0, none⟩ = some (.int .i64 i.op) := fun n => (C.out n).1
    have r1 : ∀ n, (gw n).cell? ⟨w.heap.size + 1, 1, none⟩ = some (.int .i64 i.arg) := fun n => (C.out n).2.1
    have r2 : ∀ n, (gw n).cell? ⟨w.heap.size + 1, 2, none⟩ = some (.int .i64 yk) := fun n => (C.out n).2.2.1
    have r3 : ∀ n, (gw n).cell? ⟨w.heap.size + 1, 3, none⟩ = some (.int .i64 yn) := fun n => (C.out n).2.2.2.1
    have r4 : ∀ n, (gw n).cell? ⟨w.heap.size + 1, 4, none⟩ = some (.string ys) := fun n => (C.out n).2.2.2.2.1
    have r5 : ∀ n, (gw n).cell? ⟨w.heap.size + 1, 5, none⟩ = some (.slice yA ym yc) := fun n => (C.out n).2.2.2.2.2.1
    have r6 : ∀ n, (gw n).cell? ⟨w.heap.size + 1, 6, none⟩ = some (.int .i64 i.to) := fun n => (C.out n).2.2.2.2.2.2
    repeat (go_big_quiet_step ((first | (go_at_call 209; exact later_of HC (impl_argMost p ⟨gA, gc, lA, lc, pA, pc, eA, ec, iA, ic⟩ _ (HP.out.belowA (below_then B0.out (HG.out _))) _)))))
    refine wpQuiet_nil ?_
    intro _ hw'
    obtain ⟨nq, hw''⟩ := hw'
    subst hw''
    go_wp2_with fail
    go_ret
    exact ⟨ret_bool F.out.symm, below_then B0.out (HG.out _)⟩
  have l2' : decide (9 < i.op) = false := decide_no l2
  have Q1 := Lib.hid (op_good l1 l2)
  by_cases l3 : i.arg < 0
  · have l3' : decide (i.arg < 0) = true := decide_eq_true l3
    have F : Hid (insB p i b0 (e0 - 1) = false) := Lib.hid (arg_bad (by omega))
    go_enter Tryd.func163, Tryd.ntmps163
    go_wp2_with fail
    refine wp_region_later (by kernel_rfl) (by kernel_rfl) ?_
    intro gw hgw hcw
    have HG := Lib.hid hgw
    have HC := Lib.hid hcw
    clear hgw hcw
    have P := Lib.hid (fun n => BX0.out.below (HG.out n))
    have C := Lib.hid (fun n => CX0.out.below (HG.out n))
    have p0 : ∀ n, (gw n).cell? ⟨w.heap.size, 0, none⟩ = some (.slice gA p.globals.length gc) := fun n => (P.out n).1
    have p1 : ∀ n, (gw n).cell? ⟨w.heap.size, 1, none⟩ = some (.slice lA p.locks.length lc) := fun n => (P.out n).2.1
    have p2 : ∀ n, (gw n).cell? ⟨w.heap.size, 2, none⟩ = some (.slice pA p.procs.length pc) := fun n => (P.out n).2.2.1
    have p3 : ∀ n, (gw n).cell? ⟨w.heap.size, 3, none⟩ = some (.slice eA p.entry.length ec) := fun n => (P.out n).2.2.2.1
    have p4 : ∀ n, (gw n).cell? ⟨w.heap.size, 4, none⟩ = some (.slice iA p.ins.length ic) := fun n => (P.out n).2.2.2.2
    have r0 : ∀ n, (gw n).cell? ⟨w.heap.size + 1, 0, none⟩ = some (.int .i64 i.op) := fun n => (C.out n).1
    have r1 : ∀ n, (gw n).cell? ⟨w.heap.size + 1, 1, none⟩ = some (.int .i64 i.arg) := fun n => (C.out n).2.1
    have r2 : ∀ n, (gw n).cell? ⟨w.heap.size + 1, 2, none⟩ = some (.int .i64 yk) := fun n => (C.out n).2.2.1
    have r3 : ∀ n, (gw n).cell? ⟨w.heap.size + 1, 3, none⟩ = some (.int .i64 yn) := fun n => (C.out n).2.2.2.1
    have r4 : ∀ n, (gw n).cell? ⟨w.heap.size + 1, 4, none⟩ = some (.string ys) := fun n => (C.out n).2.2.2.2.1
    have r5 : ∀ n, (gw n).cell? ⟨w.heap.size + 1, 5, none⟩ = some (.slice yA ym yc) := fun n => (C.out n).2.2.2.2.2.1
    have r6 : ∀ n, (gw n).cell? ⟨w.heap.size + 1, 6, none⟩ = some (.int .i64 i.to) := fun n => (C.out n).2.2.2.2.2.2
    repeat (go_big_quiet_step ((first | (go_at_call 209; exact later_of HC (impl_argMost p ⟨gA, gc, lA, lc, pA, pc, eA, ec, iA, ic⟩ _ (HP.out.belowA (below_then B0.out (HG.out _))) _)))))
    refine wpQuiet_nil ?_
    intro _ hw'
    obtain ⟨nq, hw''⟩ := hw'
    subst hw''
    go_wp2_with fail
    go_ret
    exact ⟨ret_bool F.out.symm, below_then B0.out (HG.out _)⟩
  have l3' : decide (i.arg < 0) = false := decide_no l3
  by_cases l4 : argM p i.op ≤ i.arg
  · have l4' : decide (argM p i.op ≤ i.arg) = true := decide_eq_true l4
    have F : Hid (insB p i b0 (e0 - 1) = false) := Lib.hid (arg_bad (by rw [AM.out]; omega))
    go_enter Tryd.func163, Tryd.ntmps163
    go_wp2_with fail
    refine wp_region_later (by kernel_rfl) (by kernel_rfl) ?_
    intro gw hgw hcw
    have HG := Lib.hid hgw
    have HC := Lib.hid hcw
    clear hgw hcw
    have P := Lib.hid (fun n => BX0.out.below (HG.out n))
    have C := Lib.hid (fun n => CX0.out.below (HG.out n))
    have p0 : ∀ n, (gw n).cell? ⟨w.heap.size, 0, none⟩ = some (.slice gA p.globals.length gc) := fun n => (P.out n).1
    have p1 : ∀ n, (gw n).cell? ⟨w.heap.size, 1, none⟩ = some (.slice lA p.locks.length lc) := fun n => (P.out n).2.1
    have p2 : ∀ n, (gw n).cell? ⟨w.heap.size, 2, none⟩ = some (.slice pA p.procs.length pc) := fun n => (P.out n).2.2.1
    have p3 : ∀ n, (gw n).cell? ⟨w.heap.size, 3, none⟩ = some (.slice eA p.entry.length ec) := fun n => (P.out n).2.2.2.1
    have p4 : ∀ n, (gw n).cell? ⟨w.heap.size, 4, none⟩ = some (.slice iA p.ins.length ic) := fun n => (P.out n).2.2.2.2
    have r0 : ∀ n, (gw n).cell? ⟨w.heap.size + 1, 0, none⟩ = some (.int .i64 i.op) := fun n => (C.out n).1
    have r1 : ∀ n, (gw n).cell? ⟨w.heap.size + 1, 1, none⟩ = some (.int .i64 i.arg) := fun n => (C.out n).2.1
    have r2 : ∀ n, (gw n).cell? ⟨w.heap.size + 1, 2, none⟩ = some (.int .i64 yk) := fun n => (C.out n).2.2.1
    have r3 : ∀ n, (gw n).cell? ⟨w.heap.size + 1, 3, none⟩ = some (.int .i64 yn) := fun n => (C.out n).2.2.2.1
    have r4 : ∀ n, (gw n).cell? ⟨w.heap.size + 1, 4, none⟩ = some (.string ys) := fun n => (C.out n).2.2.2.2.1
    have r5 : ∀ n, (gw n).cell? ⟨w.heap.size + 1, 5, none⟩ = some (.slice yA ym yc) := fun n => (C.out n).2.2.2.2.2.1
    have r6 : ∀ n, (gw n).cell? ⟨w.heap.size + 1, 6, none⟩ = some (.int .i64 i.to) := fun n => (C.out n).2.2.2.2.2.2
    repeat (go_big_quiet_step ((first | (go_at_call 209; exact later_of HC (impl_argMost p ⟨gA, gc, lA, lc, pA, pc, eA, ec, iA, ic⟩ _ (HP.out.belowA (below_then B0.out (HG.out _))) _)))))
    refine wpQuiet_nil ?_
    intro _ hw'
    obtain ⟨nq, hw''⟩ := hw'
    subst hw''
    go_wp2_with fail
    go_ret
    exact ⟨ret_bool F.out.symm, below_then B0.out (HG.out _)⟩
  have l4' : decide (argM p i.op ≤ i.arg) = false := decide_no l4
  have Q2 : Hid (inB i.arg 0 (mostC p i.op) = true) := Lib.hid (arg_good (by omega) (by rw [AM.out]; omega))
  cases h3 : sameB i.term zeroTm with
  | false =>
    have F : Hid (insB p i b0 (e0 - 1) = false) := Lib.hid (insB_trm (by rw [trmB_zero (fun h => h.elim NO.out.1 NO.out.2.1)]; exact h3))
    have H3 := Lib.hid h3
    clear h3
    go_enter Tryd.func163, Tryd.ntmps163
    go_wp2_with fail
    refine wp_region_later (by kernel_rfl) (by kernel_rfl) ?_
    intro gw hgw hcw
    have HG := Lib.hid hgw
    have HC := Lib.hid hcw
    clear hgw hcw
    have P := Lib.hid (fun n => BX0.out.below (HG.out n))
    have C := Lib.hid (fun n => CX0.out.below (HG.out n))
    have p0 : ∀ n, (gw n).cell? ⟨w.heap.size, 0, none⟩ = some (.slice gA p.globals.length gc) := fun n => (P.out n).1
    have p1 : ∀ n, (gw n).cell? ⟨w.heap.size, 1, none⟩ = some (.slice lA p.locks.length lc) := fun n => (P.out n).2.1
    have p2 : ∀ n, (gw n).cell? ⟨w.heap.size, 2, none⟩ = some (.slice pA p.procs.length pc) := fun n => (P.out n).2.2.1
    have p3 : ∀ n, (gw n).cell? ⟨w.heap.size, 3, none⟩ = some (.slice eA p.entry.length ec) := fun n => (P.out n).2.2.2.1
    have p4 : ∀ n, (gw n).cell? ⟨w.heap.size, 4, none⟩ = some (.slice iA p.ins.length ic) := fun n => (P.out n).2.2.2.2
    have r0 : ∀ n, (gw n).cell? ⟨w.heap.size + 1, 0, none⟩ = some (.int .i64 i.op) := fun n => (C.out n).1
    have r1 : ∀ n, (gw n).cell? ⟨w.heap.size + 1, 1, none⟩ = some (.int .i64 i.arg) := fun n => (C.out n).2.1
    have r2 : ∀ n, (gw n).cell? ⟨w.heap.size + 1, 2, none⟩ = some (.int .i64 yk) := fun n => (C.out n).2.2.1
    have r3 : ∀ n, (gw n).cell? ⟨w.heap.size + 1, 3, none⟩ = some (.int .i64 yn) := fun n => (C.out n).2.2.2.1
    have r4 : ∀ n, (gw n).cell? ⟨w.heap.size + 1, 4, none⟩ = some (.string ys) := fun n => (C.out n).2.2.2.2.1
    have r5 : ∀ n, (gw n).cell? ⟨w.heap.size + 1, 5, none⟩ = some (.slice yA ym yc) := fun n => (C.out n).2.2.2.2.2.1
    have r6 : ∀ n, (gw n).cell? ⟨w.heap.size + 1, 6, none⟩ = some (.int .i64 i.to) := fun n => (C.out n).2.2.2.2.2.2
    repeat (go_big_quiet_step ((first | (go_at_call 209; exact later_of HC (impl_argMost p ⟨gA, gc, lA, lc, pA, pc, eA, ec, iA, ic⟩ _ (HP.out.belowA (below_then B0.out (HG.out _))) _)))))
    refine wpQuiet_nil ?_
    intro _ hw'
    obtain ⟨nq, hw''⟩ := hw'
    subst hw''
    go_wp2_with fail
    refine (impl_isZeroTerm i.term yk yn ys yA ym yc _ (HT.out.belowA (below_then B0.out (HG.out _)))).mono ?_
    rintro e w1 ⟨rfl, b1⟩
    have BB : Hid (Below w.heap.size w w1) := Lib.hid (below_then (below_then B0.out (HG.out _)) b1)
    have BX := Lib.hid ((P.out _).below b1)
    have CX := Lib.hid ((C.out _).below b1)
    rw [H3.out]
    clear b1 p0 p1 p2 p3 p4 r0 r1 r2 r3 r4 r5 r6
    go_wp2_with fail
    go_ret
    exact ⟨ret_bool F.out.symm, BB.out⟩
  | true =>
  have FIN : Hid (insB p i b0 (e0 - 1) = tgtB i b0 (e0 - 1)) := Lib.hid (insB_fin Q1.out Q2.out (by rw [trmB_zero (fun h => h.elim NO.out.1 NO.out.2.1)]; exact h3))
  have H3 := Lib.hid h3
  clear h3
  go_enter Tryd.func163, Tryd.ntmps163
  go_wp2_with fail
  refine wp_region_later (by kernel_rfl) (by kernel_rfl) ?_
  intro gw hgw hcw
  have HG := Lib.hid hgw
  have HC := Lib.hid hcw
  clear hgw hcw
  have P := Lib.hid (fun n => BX0.out.below (HG.out n))
  have C := Lib.hid (fun n => CX0.out.below (HG.out n))
  have p0 : ∀ n, (gw n).cell? ⟨w.heap.size, 0, none⟩ = some (.slice gA p.globals.length gc) := fun n => (P.out n).1
  have p1 : ∀ n, (gw n).cell? ⟨w.heap.size, 1, none⟩ = some (.slice lA p.locks.length lc) := fun n => (P.out n).2.1
  have p2 : ∀ n, (gw n).cell? ⟨w.heap.size, 2, none⟩ = some (.slice pA p.procs.length pc) := fun n => (P.out n).2.2.1
  have p3 : ∀ n, (gw n).cell? ⟨w.heap.size, 3, none⟩ = some (.slice eA p.entry.length ec) := fun n => (P.out n).2.2.2.1
  have p4 : ∀ n, (gw n).cell? ⟨w.heap.size, 4, none⟩ = some (.slice iA p.ins.length ic) := fun n => (P.out n).2.2.2.2
  have r0 : ∀ n, (gw n).cell? ⟨w.heap.size + 1, 0, none⟩ = some (.int .i64 i.op) := fun n => (C.out n).1
  have r1 : ∀ n, (gw n).cell? ⟨w.heap.size + 1, 1, none⟩ = some (.int .i64 i.arg) := fun n => (C.out n).2.1
  have r2 : ∀ n, (gw n).cell? ⟨w.heap.size + 1, 2, none⟩ = some (.int .i64 yk) := fun n => (C.out n).2.2.1
  have r3 : ∀ n, (gw n).cell? ⟨w.heap.size + 1, 3, none⟩ = some (.int .i64 yn) := fun n => (C.out n).2.2.2.1
  have r4 : ∀ n, (gw n).cell? ⟨w.heap.size + 1, 4, none⟩ = some (.string ys) := fun n => (C.out n).2.2.2.2.1
  have r5 : ∀ n, (gw n).cell? ⟨w.heap.size + 1, 5, none⟩ = some (.slice yA ym yc) := fun n => (C.out n).2.2.2.2.2.1
  have r6 : ∀ n, (gw n).cell? ⟨w.heap.size + 1, 6, none⟩ = some (.int .i64 i.to) := fun n => (C.out n).2.2.2.2.2.2
  repeat (go_big_quiet_step ((first | (go_at_call 209; exact later_of HC (impl_argMost p ⟨gA, gc, lA, lc, pA, pc, eA, ec, iA, ic⟩ _ (HP.out.belowA (below_then B0.out (HG.out _))) _)))))
  refine wpQuiet_nil ?_
  intro _ hw'
  obtain ⟨nq, hw''⟩ := hw'
  subst hw''
  go_wp2_with fail
  refine (impl_isZeroTerm i.term yk yn ys yA ym yc _ (HT.out.belowA (below_then B0.out (HG.out _)))).mono ?_
  rintro e w1 ⟨rfl, b1⟩
  have BB : Hid (Below w.heap.size w w1) := Lib.hid (below_then (below_then B0.out (HG.out _)) b1)
  have BX := Lib.hid ((P.out _).below b1)
  have CX := Lib.hid ((C.out _).below b1)
  rw [H3.out]
  clear b1 p0 p1 p2 p3 p4 r0 r1 r2 r3 r4 r5 r6
  obtain ⟨p0, p1, p2, p3, p4⟩ := BX.out
  obtain ⟨r0, r1, r2, r3, r4, r5, r6⟩ := CX.out
  simp only at p0 p1 p2 p3 p4 r0 r1 r2 r3 r4 r5 r6
  have F : Hid (insB p i b0 (e0 - 1) = (i.to == 0)) := Lib.hid (by rw [FIN.out, tgtB_none (fun h => h.elim NO.out.2.1 NO.out.2.2.1)])
  go_wp2_with fail
  go_ret
  exact ⟨ret_bool F.out.symm, BB.out⟩
theorem impl_insRight (p : Cd) (x : V5) (i : Ic) (y : V7) (b0 e0 : Int) (w : World) (hp : CdIs w x p) (hI : IcIs AnyB w y i) (htt : totT i.term ≤ 1048576) :
    Calls Tryd.prog 163 #[x.val p, .agg #[.int .i64 y.op, .int .i64 y.arg, .int .i64 y.k, .int .i64 y.n, .string y.s, .slice y.A y.m y.c, .int .i64 y.to], .int .i64 b0, .int .i64 e0] w fun e w' => e = .returned (.bool (insB p i b0 (e0 - 1))) ∧ Below w.heap.size w w' := by
  by_cases h1 : i.op = 1
  · exact impl_insRight_1 p x i y b0 e0 w hp hI h1 htt
  by_cases h2 : i.op = 2
  · exact impl_insRight_2 p x i y b0 e0 w hp hI h2 htt
  by_cases h3 : i.op = 3
  · exact impl_insRight_3 p x i y b0 e0 w hp hI h3 htt
  by_cases h4 : i.op = 4
  · exact impl_insRight_4 p x i y b0 e0 w hp hI h4 htt
  by_cases h5 : i.op = 5
  · exact impl_insRight_5 p x i y b0 e0 w hp hI h5 htt
  by_cases h6 : i.op = 6
  · exact impl_insRight_6 p x i y b0 e0 w hp hI h6 htt
  by_cases h7 : i.op = 7
  · exact impl_insRight_7 p x i y b0 e0 w hp hI h7 htt
  exact impl_insRight_o p x i y b0 e0 w hp hI h1 h2 h3 h4 h5 h6 h7 htt
end Go.Proofs.YtefcdpkficojgaaDoor
