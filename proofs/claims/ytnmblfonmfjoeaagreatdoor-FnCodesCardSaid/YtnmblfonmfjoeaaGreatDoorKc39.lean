/- Lemmas for the row. -/
import Derived.Test.YtnmblfonmfjoeaaGreatDoorKc38
namespace Go.Proofs.YtnmblfonmfjoeaaGreatDoor
open Go.RowKit
set_option maxHeartbeats 3200000
set_option maxRecDepth 100000
set_option linter.unusedVariables false
theorem arg_bad {p : Cd} {x : Ic} {b l : Int} (h : ¬ (0 ≤ x.arg ∧ x.arg < argM p x.op)) : insB p x b l = false := by
 refine insB_arg ?_
 rw [argM_most] at h
 unfold inB
 by_cases h0 : 0 ≤ x.arg
 ·rw [decide_no (by omega : ¬ x.arg ≤ mostC p x.op), Bool.and_false]
 ·rw [decide_no h0]; rfl
theorem arg_good {p : Cd} {x : Ic} (h0 : 0 ≤ x.arg) (h : x.arg < argM p x.op) : inB x.arg 0 (mostC p x.op) = true := by
 rw [argM_most] at h
 unfold inB
 rw [decide_eq_true h0, decide_eq_true (by omega)]; rfl
theorem op_bad {p : Cd} {x : Ic} {b l : Int} (h : x.op < 1 ∨ 9 < x.op) : insB p x b l = false := by
 refine insB_op ?_
 unfold inB
 rcases h with h | h
 ·rw [decide_no (by omega : ¬ 1 ≤ x.op)]; rfl
 ·rw [decide_no (by omega : ¬ x.op ≤ 9), Bool.and_false]
theorem op_good {x : Ic} (h1 : ¬ x.op < 1) (h2 : ¬ 9 < x.op) : inB x.op 1 9 = true := by
 unfold inB; rw [decide_eq_true (by omega), decide_eq_true (by omega)]; rfl
theorem inBi_yes {a b c : Int} (h1 : b ≤ a) (h2 : a ≤ c) : inB a b c = true := by unfold inB; rw [decide_eq_true h1, decide_eq_true h2]; rfl
theorem inBi_no {a b c : Int} (h : ¬ (b ≤ a ∧ a ≤ c)) : inB a b c = false := by
 unfold inB
 by_cases h1 : b ≤ a
 ·rw [decide_no (by omega : ¬ a ≤ c), Bool.and_false]
 ·rw [decide_no h1]; rfl
theorem all12 {ι : Type} {g : ι → World} {a b : Nat} {x : V5} {p : Cd} {y : V7} (h : ∀ n, Box5 (g n) a x p) (k : ∀ n, Cells7 (g n) b 0 y) : (∀ n, (g n).cell? ⟨a, 0, none⟩ = some (.slice x.gA p.globals.length x.gc)) ∧ (∀ n, (g n).cell? ⟨a, 1, none⟩ = some (.slice x.lA p.locks.length x.lc)) ∧ (∀ n, (g n).cell? ⟨a, 2, none⟩ = some (.slice x.pA p.procs.length x.pc)) ∧ (∀ n, (g n).cell? ⟨a, 3, none⟩ = some (.slice x.eA p.entry.length x.ec)) ∧ (∀ n, (g n).cell? ⟨a, 4, none⟩ = some (.slice x.iA p.ins.length x.ic)) ∧ (∀ n, (g n).cell? ⟨b, 0, none⟩ = some (.int .i64 y.op)) ∧ (∀ n, (g n).cell? ⟨b, 1, none⟩ = some (.int .i64 y.arg)) ∧ (∀ n, (g n).cell? ⟨b, 2, none⟩ = some (.int .i64 y.k)) ∧ (∀ n, (g n).cell? ⟨b, 3, none⟩ = some (.int .i64 y.n)) ∧ (∀ n, (g n).cell? ⟨b, 4, none⟩ = some (.string y.s)) ∧ (∀ n, (g n).cell? ⟨b, 5, none⟩ = some (.slice y.A y.m y.c)) ∧ ∀ n, (g n).cell? ⟨b, 6, none⟩ = some (.int .i64 y.to) :=
 ⟨fun n => (h n).1, fun n => (h n).2.1, fun n => (h n).2.2.1, fun n => (h n).2.2.2.1, fun n => (h n).2.2.2.2, fun n => (k n).1, fun n => (k n).2.1, fun n => (k n).2.2.1, fun n => (k n).2.2.2.1, fun n => (k n).2.2.2.2.1, fun n => (k n).2.2.2.2.2.1, fun n => (k n).2.2.2.2.2.2⟩
theorem impl_insRight_1 (p : Cd) (x : V5) (i : Ic) (y : V7) (b0 e0 : Int) (w : World) (hp : CdIs w x p) (hI : IcIs AnyB w y i) (hop : i.op = 1) (htt : totT i.term ≤ 1048576) :
  Calls Tryz.prog 26 #[x.val p, .agg #[.int .i64 y.op, .int .i64 y.arg, .int .i64 y.k, .int .i64 y.n, .string y.s, .slice y.A y.m y.c, .int .i64 y.to], .int .i64 b0, .int .i64 e0] w fun e w' => e = .returned (.bool (insB p i b0 (e0 - 1))) ∧ Below w.heap.size w w' := by
 obtain ⟨gA, gc, lA, lc, pA, pc, eA, ec, iA, ic⟩ := x
 obtain ⟨yo, ya, yk, yn, ys, yA, ym, yc, yt⟩ := y
 have HP := qh hp
 obtain ⟨ho, ha, hto, _, _, _, hT⟩ := hI
 simp only [V7.term] at ho ha hto hT
 have HT := qh hT
 have hnd : nodes i.term ≤ 10000000 := by have := nodes_tot i.term; omega
 clear hT hp htt
 subst ha hto
 unfold V5.val
 simp only
 have hopH := qh hop
 rw [hop] at ho
 subst ho
 have AM : Hid (argM p i.op = argM p 1) := qh (by rw [hop])
 have Q1 : Hid (inB i.op 1 9 = true) := qh (by rw [hop]; rfl)
 clear hop
 have B0 : Hid (Below w.heap.size w ((w.alloc (.cells #[.slice gA p.globals.length gc, .slice lA p.locks.length lc, .slice pA p.procs.length pc, .slice eA p.entry.length ec, .slice iA p.ins.length ic] 32)).alloc (.cells #[.int .i64 1, .int .i64 i.arg, .int .i64 yk, .int .i64 yn, .string ys, .slice yA ym yc, .int .i64 i.to] 45))) := qh zB
 have BX0 : Hid (Box5 ((w.alloc (.cells #[.slice gA p.globals.length gc, .slice lA p.locks.length lc, .slice pA p.procs.length pc, .slice eA p.entry.length ec, .slice iA p.ins.length ic] 32)).alloc (.cells #[.int .i64 1, .int .i64 i.arg, .int .i64 yk, .int .i64 yn, .string ys, .slice yA ym yc, .int .i64 i.to] 45)) w.heap.size ⟨gA, gc, lA, lc, pA, pc, eA, ec, iA, ic⟩ p) := qh ((Box5.new w ⟨gA, gc, lA, lc, pA, pc, eA, ec, iA, ic⟩ p _).below (Below.alloc (Below.refl _ _) (Nat.le_refl _) _))
 have CX0 : Hid (Cells7 ((w.alloc (.cells #[.slice gA p.globals.length gc, .slice lA p.locks.length lc, .slice pA p.procs.length pc, .slice eA p.entry.length ec, .slice iA p.ins.length ic] 32)).alloc (.cells #[.int .i64 1, .int .i64 i.arg, .int .i64 yk, .int .i64 yn, .string ys, .slice yA ym yc, .int .i64 i.to] 45)) (w.heap.size + 1) 0 ⟨1, i.arg, yk, yn, ys, yA, ym, yc, i.to⟩) := qh (by
  have := Cells7.new (w.alloc (.cells #[.slice gA p.globals.length gc, .slice lA p.locks.length lc, .slice pA p.procs.length pc, .slice eA p.entry.length ec, .slice iA p.ins.length ic] 32)) ⟨1, i.arg, yk, yn, ys, yA, ym, yc, i.to⟩ 45
  rwa [World.size_alloc] at this)
 by_cases l3 : i.arg < 0
 ·have l3' : decide (i.arg < 0) = true := decide_eq_true l3
  have F : Hid (insB p i b0 (e0 - 1) = false) := qh (arg_bad (by omega))
  go_enter Tryz.func26, Tryz.ntmps26
  go_wp2_with fail
  refine wp_region_later (by kernel_rfl) (by kernel_rfl) ?_
  intro gw hgw hcw
  have HG := qh hgw
  have HC := qh hcw
  clear hgw hcw
  have P := qh (fun n => BX0.out.below (HG.out n))
  have C := qh (fun n => CX0.out.below (HG.out n))
  obtain ⟨p0, p1, p2, p3, p4, r0, r1, r2, r3, r4, r5, r6⟩ := all12 P.out C.out
  simp only at p0 p1 p2 p3 p4 r0 r1 r2 r3 r4 r5 r6
  repeat (go_big_quiet_step ((first | (go_at_call 58; exact later_of HC (impl_argMost p ⟨gA, gc, lA, lc, pA, pc, eA, ec, iA, ic⟩ _ (HP.out.belowA (below_then B0.out (HG.out _))) _)))))
  refine wpQuiet_nil ?_
  intro _ hw'
  obtain ⟨nq, hw''⟩ := hw'
  subst hw''
  go_wp2_with fail
  go_ret
  exact ⟨ret_bool F.out.symm, below_then B0.out (HG.out _)⟩
 have l3' : decide (i.arg < 0) = false := decide_no l3
 by_cases l4 : argM p 1 ≤ i.arg
 ·have l4' : decide (argM p 1 ≤ i.arg) = true := decide_eq_true l4
  have F : Hid (insB p i b0 (e0 - 1) = false) := qh (arg_bad (by rw [AM.out]; omega))
  go_enter Tryz.func26, Tryz.ntmps26
  go_wp2_with fail
  refine wp_region_later (by kernel_rfl) (by kernel_rfl) ?_
  intro gw hgw hcw
  have HG := qh hgw
  have HC := qh hcw
  clear hgw hcw
  have P := qh (fun n => BX0.out.below (HG.out n))
  have C := qh (fun n => CX0.out.below (HG.out n))
  obtain ⟨p0, p1, p2, p3, p4, r0, r1, r2, r3, r4, r5, r6⟩ := all12 P.out C.out
  simp only at p0 p1 p2 p3 p4 r0 r1 r2 r3 r4 r5 r6
  repeat (go_big_quiet_step ((first | (go_at_call 58; exact later_of HC (impl_argMost p ⟨gA, gc, lA, lc, pA, pc, eA, ec, iA, ic⟩ _ (HP.out.belowA (below_then B0.out (HG.out _))) _)))))
  refine wpQuiet_nil ?_
  intro _ hw'
  obtain ⟨nq, hw''⟩ := hw'
  subst hw''
  go_wp2_with fail
  go_ret
  exact ⟨ret_bool F.out.symm, below_then B0.out (HG.out _)⟩
 have l4' : decide (argM p 1 ≤ i.arg) = false := decide_no l4
 have Q2 : Hid (inB i.arg 0 (mostC p i.op) = true) := qh (arg_good (by omega) (by rw [AM.out]; omega))
 cases h3 : okT 6 i.term with
 | false =>
  have F : Hid (insB p i b0 (e0 - 1) = false) := qh (insB_trm (trmB_bad (by rw [hopH.out]; simp) h3))
  have H3 := qh h3
  clear h3
  go_enter Tryz.func26, Tryz.ntmps26
  go_wp2_with fail
  refine wp_region_later (by kernel_rfl) (by kernel_rfl) ?_
  intro gw hgw hcw
  have HG := qh hgw
  have HC := qh hcw
  clear hgw hcw
  have P := qh (fun n => BX0.out.below (HG.out n))
  have C := qh (fun n => CX0.out.below (HG.out n))
  obtain ⟨p0, p1, p2, p3, p4, r0, r1, r2, r3, r4, r5, r6⟩ := all12 P.out C.out
  simp only at p0 p1 p2 p3 p4 r0 r1 r2 r3 r4 r5 r6
  repeat (go_big_quiet_step ((first | (go_at_call 58; exact later_of HC (impl_argMost p ⟨gA, gc, lA, lc, pA, pc, eA, ec, iA, ic⟩ _ (HP.out.belowA (below_then B0.out (HG.out _))) _)))))
  refine wpQuiet_nil ?_
  intro _ hw'
  obtain ⟨nq, hw''⟩ := hw'
  subst hw''
  go_wp2_with fail
  refine (impl_TermOk i.term yk yn ys yA ym yc _ (HT.out.belowA (below_then B0.out (HG.out _)))).mono ?_
  rintro e w1 ⟨rfl, b1⟩
  have BB : Hid (Below w.heap.size w w1) := qh (below_then (below_then B0.out (HG.out _)) b1)
  have BX := qh ((P.out _).below b1)
  have CX := qh ((C.out _).below b1)
  rw [H3.out]
  clear b1 p0 p1 p2 p3 p4 r0 r1 r2 r3 r4 r5 r6
  go_wp2_with fail
  go_ret
  exact ⟨ret_bool F.out.symm, BB.out⟩
 | true =>
 have H3 := qh h3
 clear h3
 go_enter Tryz.func26, Tryz.ntmps26
 go_wp2_with fail
 refine wp_region_later (by kernel_rfl) (by kernel_rfl) ?_
 intro gw hgw hcw
 have HG := qh hgw
 have HC := qh hcw
 clear hgw hcw
 have P := qh (fun n => BX0.out.below (HG.out n))
 have C := qh (fun n => CX0.out.below (HG.out n))
 obtain ⟨p0, p1, p2, p3, p4, r0, r1, r2, r3, r4, r5, r6⟩ := all12 P.out C.out
 simp only at p0 p1 p2 p3 p4 r0 r1 r2 r3 r4 r5 r6
 repeat (go_big_quiet_step ((first | (go_at_call 58; exact later_of HC (impl_argMost p ⟨gA, gc, lA, lc, pA, pc, eA, ec, iA, ic⟩ _ (HP.out.belowA (below_then B0.out (HG.out _))) _)))))
 refine wpQuiet_nil ?_
 intro _ hw'
 obtain ⟨nq, hw''⟩ := hw'
 subst hw''
 go_wp2_with fail
 refine (impl_TermOk i.term yk yn ys yA ym yc _ (HT.out.belowA (below_then B0.out (HG.out _)))).mono ?_
 rintro e w1 ⟨rfl, b1⟩
 have BB : Hid (Below w.heap.size w w1) := qh (below_then (below_then B0.out (HG.out _)) b1)
 have BX := qh ((P.out _).below b1)
 have CX := qh ((C.out _).below b1)
 rw [H3.out]
 clear b1 p0 p1 p2 p3 p4 r0 r1 r2 r3 r4 r5 r6
 obtain ⟨p0, p1, p2, p3, p4⟩ := BX.out
 obtain ⟨r0, r1, r2, r3, r4, r5, r6⟩ := CX.out
 simp only at p0 p1 p2 p3 p4 r0 r1 r2 r3 r4 r5 r6
 go_wp2_with fail
 refine (impl_ReadsOf i.term yk yn ys yA ym yc _ (HT.out.belowA BB.out) hnd).mono ?_
 rintro e w2 ⟨v2, rfl, own2⟩
 obtain ⟨A2, c2, rfl, hc2⟩ := own2.slice
 have hm2 := own_cap' own2
 unfold maxLen at hm2
 have RD2 := qh own2.rd
 have B2 := qh (below_then BB.out own2.2)
 have X2 := qh (BX.out.below own2.2)
 have C2 := qh (CX.out.below own2.2)
 clear own2 p0 p1 p2 p3 p4 r0 r1 r2 r3 r4 r5 r6 BB BX CX
 have BB := B2
 have BX := X2
 have CX := C2
 clear B2 X2 C2
 obtain ⟨p0, p1, p2, p3, p4⟩ := BX.out
 obtain ⟨r0, r1, r2, r3, r4, r5, r6⟩ := CX.out
 simp only at p0 p1 p2 p3 p4 r0 r1 r2 r3 r4 r5 r6
 have GS := qh (HP.out.belowA BB.out).gs
 go_wp2_with fail
 go_loop [49] (fun z => ∃ k : Nat, k ≤ (readsR i.term).length ∧ z = .int .i64 k ∧ Hid (((readsR i.term).take k).all (hasS p.globals) = true)) (fun z => (readsR i.term).length - (intOf z).toNat)
 case atStart => exact ⟨0, Nat.zero_le _, rfl, qh (by simp)⟩
 case round =>
  obtain ⟨k, hk, rfl, HT⟩ := hrel
  by_cases hlt : k < (readsR i.term).length
  ·obtain ⟨rb, roff, rfl, rcell⟩ := rd_str RD2.out hlt
   have h0k : (0 : Int) ≤ (k : Int) := by omega
   have h1k : (k : Int) < ((readsR i.term).length : Int) := by omega
   cases hh : hasS p.globals (readsR i.term)[k] with
   | false =>
    have F : Hid (insB p i b0 (e0 - 1) = false) := qh (insB_trm (trmB_miss (by rw [hopH.out]; simp) hlt hh))
    have HH := qh hh
    clear hh
    go_wp2_with (go_at_call 47; refine (slices_Contains _ p.globals _ _ GS.out).mono ?_; rintro e w' ⟨rfl, rfl⟩; rw [HH.out])
    go_ret
    exact ⟨ret_bool F.out.symm, BB.out⟩
   | true =>
    have T := qh (all_next hlt HT.out hh)
    have HH := qh hh
    clear hh
    go_wp2_with (go_at_call 47; refine (slices_Contains _ p.globals _ _ GS.out).mono ?_; rintro e w' ⟨rfl, rfl⟩; rw [HH.out])
    go_round
    case rel => exact ⟨k + 1, by omega, by go_num, T⟩
    case measure => simp [intOf]; omega
  ·have FIN : Hid (insB p i b0 (e0 - 1) = tgtB i b0 (e0 - 1)) := qh (insB_fin Q1.out Q2.out (trmB_yes (by rw [hopH.out]; simp) H3.out (by have := HT.out; rwa [List.take_of_length_le (by omega)] at this)))
   clear HT
   have F : Hid (insB p i b0 (e0 - 1) = (i.to == 0)) := qh (by rw [FIN.out, tgtB_none (by rw [hopH.out]; simp)])
   go_wp2_with fail
   go_ret
   exact ⟨ret_bool F.out.symm, BB.out⟩
theorem impl_insRight_2 (p : Cd) (x : V5) (i : Ic) (y : V7) (b0 e0 : Int) (w : World) (hp : CdIs w x p) (hI : IcIs AnyB w y i) (hop : i.op = 2) (htt : totT i.term ≤ 1048576) :
  Calls Tryz.prog 26 #[x.val p, .agg #[.int .i64 y.op, .int .i64 y.arg, .int .i64 y.k, .int .i64 y.n, .string y.s, .slice y.A y.m y.c, .int .i64 y.to], .int .i64 b0, .int .i64 e0] w fun e w' => e = .returned (.bool (insB p i b0 (e0 - 1))) ∧ Below w.heap.size w w' := by
 obtain ⟨gA, gc, lA, lc, pA, pc, eA, ec, iA, ic⟩ := x
 obtain ⟨yo, ya, yk, yn, ys, yA, ym, yc, yt⟩ := y
 have HP := qh hp
 obtain ⟨ho, ha, hto, _, _, _, hT⟩ := hI
 simp only [V7.term] at ho ha hto hT
 have HT := qh hT
 have hnd : nodes i.term ≤ 10000000 := by have := nodes_tot i.term; omega
 clear hT hp htt
 subst ha hto
 unfold V5.val
 simp only
 have hopH := qh hop
 rw [hop] at ho
 subst ho
 have AM : Hid (argM p i.op = argM p 2) := qh (by rw [hop])
 have Q1 : Hid (inB i.op 1 9 = true) := qh (by rw [hop]; rfl)
 clear hop
 have B0 : Hid (Below w.heap.size w ((w.alloc (.cells #[.slice gA p.globals.length gc, .slice lA p.locks.length lc, .slice pA p.procs.length pc, .slice eA p.entry.length ec, .slice iA p.ins.length ic] 32)).alloc (.cells #[.int .i64 2, .int .i64 i.arg, .int .i64 yk, .int .i64 yn, .string ys, .slice yA ym yc, .int .i64 i.to] 45))) := qh zB
 have BX0 : Hid (Box5 ((w.alloc (.cells #[.slice gA p.globals.length gc, .slice lA p.locks.length lc, .slice pA p.procs.length pc, .slice eA p.entry.length ec, .slice iA p.ins.length ic] 32)).alloc (.cells #[.int .i64 2, .int .i64 i.arg, .int .i64 yk, .int .i64 yn, .string ys, .slice yA ym yc, .int .i64 i.to] 45)) w.heap.size ⟨gA, gc, lA, lc, pA, pc, eA, ec, iA, ic⟩ p) := qh ((Box5.new w ⟨gA, gc, lA, lc, pA, pc, eA, ec, iA, ic⟩ p _).below (Below.alloc (Below.refl _ _) (Nat.le_refl _) _))
 have CX0 : Hid (Cells7 ((w.alloc (.cells #[.slice gA p.globals.length gc, .slice lA p.locks.length lc, .slice pA p.procs.length pc, .slice eA p.entry.length ec, .slice iA p.ins.length ic] 32)).alloc (.cells #[.int .i64 2, .int .i64 i.arg, .int .i64 yk, .int .i64 yn, .string ys, .slice yA ym yc, .int .i64 i.to] 45)) (w.heap.size + 1) 0 ⟨2, i.arg, yk, yn, ys, yA, ym, yc, i.to⟩) := qh (by
  have := Cells7.new (w.alloc (.cells #[.slice gA p.globals.length gc, .slice lA p.locks.length lc, .slice pA p.procs.length pc, .slice eA p.entry.length ec, .slice iA p.ins.length ic] 32)) ⟨2, i.arg, yk, yn, ys, yA, ym, yc, i.to⟩ 45
  rwa [World.size_alloc] at this)
 by_cases l3 : i.arg < 0
 ·have l3' : decide (i.arg < 0) = true := decide_eq_true l3
  have F : Hid (insB p i b0 (e0 - 1) = false) := qh (arg_bad (by omega))
  go_enter Tryz.func26, Tryz.ntmps26
  go_wp2_with fail
  refine wp_region_later (by kernel_rfl) (by kernel_rfl) ?_
  intro gw hgw hcw
  have HG := qh hgw
  have HC := qh hcw
  clear hgw hcw
  have P := qh (fun n => BX0.out.below (HG.out n))
  have C := qh (fun n => CX0.out.below (HG.out n))
  obtain ⟨p0, p1, p2, p3, p4, r0, r1, r2, r3, r4, r5, r6⟩ := all12 P.out C.out
  simp only at p0 p1 p2 p3 p4 r0 r1 r2 r3 r4 r5 r6
  repeat (go_big_quiet_step ((first | (go_at_call 58; exact later_of HC (impl_argMost p ⟨gA, gc, lA, lc, pA, pc, eA, ec, iA, ic⟩ _ (HP.out.belowA (below_then B0.out (HG.out _))) _)))))
  refine wpQuiet_nil ?_
  intro _ hw'
  obtain ⟨nq, hw''⟩ := hw'
  subst hw''
  go_wp2_with fail
  go_ret
  exact ⟨ret_bool F.out.symm, below_then B0.out (HG.out _)⟩
 have l3' : decide (i.arg < 0) = false := decide_no l3
 by_cases l4 : argM p 2 ≤ i.arg
 ·have l4' : decide (argM p 2 ≤ i.arg) = true := decide_eq_true l4
  have F : Hid (insB p i b0 (e0 - 1) = false) := qh (arg_bad (by rw [AM.out]; omega))
  go_enter Tryz.func26, Tryz.ntmps26
  go_wp2_with fail
  refine wp_region_later (by kernel_rfl) (by kernel_rfl) ?_
  intro gw hgw hcw
  have HG := qh hgw
  have HC := qh hcw
  clear hgw hcw
  have P := qh (fun n => BX0.out.below (HG.out n))
  have C := qh (fun n => CX0.out.below (HG.out n))
  obtain ⟨p0, p1, p2, p3, p4, r0, r1, r2, r3, r4, r5, r6⟩ := all12 P.out C.out
  simp only at p0 p1 p2 p3 p4 r0 r1 r2 r3 r4 r5 r6
  repeat (go_big_quiet_step ((first | (go_at_call 58; exact later_of HC (impl_argMost p ⟨gA, gc, lA, lc, pA, pc, eA, ec, iA, ic⟩ _ (HP.out.belowA (below_then B0.out (HG.out _))) _)))))
  refine wpQuiet_nil ?_
  intro _ hw'
  obtain ⟨nq, hw''⟩ := hw'
  subst hw''
  go_wp2_with fail
  go_ret
  exact ⟨ret_bool F.out.symm, below_then B0.out (HG.out _)⟩
 have l4' : decide (argM p 2 ≤ i.arg) = false := decide_no l4
 have Q2 : Hid (inB i.arg 0 (mostC p i.op) = true) := qh (arg_good (by omega) (by rw [AM.out]; omega))
 cases h3 : okT 6 i.term with
 | false =>
  have F : Hid (insB p i b0 (e0 - 1) = false) := qh (insB_trm (trmB_bad (by rw [hopH.out]; simp) h3))
  have H3 := qh h3
  clear h3
  go_enter Tryz.func26, Tryz.ntmps26
  go_wp2_with fail
  refine wp_region_later (by kernel_rfl) (by kernel_rfl) ?_
  intro gw hgw hcw
  have HG := qh hgw
  have HC := qh hcw
  clear hgw hcw
  have P := qh (fun n => BX0.out.below (HG.out n))
  have C := qh (fun n => CX0.out.below (HG.out n))
  obtain ⟨p0, p1, p2, p3, p4, r0, r1, r2, r3, r4, r5, r6⟩ := all12 P.out C.out
  simp only at p0 p1 p2 p3 p4 r0 r1 r2 r3 r4 r5 r6
  repeat (go_big_quiet_step ((first | (go_at_call 58; exact later_of HC (impl_argMost p ⟨gA, gc, lA, lc, pA, pc, eA, ec, iA, ic⟩ _ (HP.out.belowA (below_then B0.out (HG.out _))) _)))))
  refine wpQuiet_nil ?_
  intro _ hw'
  obtain ⟨nq, hw''⟩ := hw'
  subst hw''
  go_wp2_with fail
  refine (impl_TermOk i.term yk yn ys yA ym yc _ (HT.out.belowA (below_then B0.out (HG.out _)))).mono ?_
  rintro e w1 ⟨rfl, b1⟩
  have BB : Hid (Below w.heap.size w w1) := qh (below_then (below_then B0.out (HG.out _)) b1)
  have BX := qh ((P.out _).below b1)
  have CX := qh ((C.out _).below b1)
  rw [H3.out]
  clear b1 p0 p1 p2 p3 p4 r0 r1 r2 r3 r4 r5 r6
  go_wp2_with fail
  go_ret
  exact ⟨ret_bool F.out.symm, BB.out⟩
 | true =>
 have H3 := qh h3
 clear h3
 go_enter Tryz.func26, Tryz.ntmps26
 go_wp2_with fail
 refine wp_region_later (by kernel_rfl) (by kernel_rfl) ?_
 intro gw hgw hcw
 have HG := qh hgw
 have HC := qh hcw
 clear hgw hcw
 have P := qh (fun n => BX0.out.below (HG.out n))
 have C := qh (fun n => CX0.out.below (HG.out n))
 obtain ⟨p0, p1, p2, p3, p4, r0, r1, r2, r3, r4, r5, r6⟩ := all12 P.out C.out
 simp only at p0 p1 p2 p3 p4 r0 r1 r2 r3 r4 r5 r6
 repeat (go_big_quiet_step ((first | (go_at_call 58; exact later_of HC (impl_argMost p ⟨gA, gc, lA, lc, pA, pc, eA, ec, iA, ic⟩ _ (HP.out.belowA (below_then B0.out (HG.out _))) _)))))
 refine wpQuiet_nil ?_
 intro _ hw'
 obtain ⟨nq, hw''⟩ := hw'
 subst hw''
 go_wp2_with fail
 refine (impl_TermOk i.term yk yn ys yA ym yc _ (HT.out.belowA (below_then B0.out (HG.out _)))).mono ?_
 rintro e w1 ⟨rfl, b1⟩
 have BB : Hid (Below w.heap.size w w1) := qh (below_then (below_then B0.out (HG.out _)) b1)
 have BX := qh ((P.out _).below b1)
 have CX := qh ((C.out _).below b1)
 rw [H3.out]
 clear b1 p0 p1 p2 p3 p4 r0 r1 r2 r3 r4 r5 r6
 obtain ⟨p0, p1, p2, p3, p4⟩ := BX.out
 obtain ⟨r0, r1, r2, r3, r4, r5, r6⟩ := CX.out
 simp only at p0 p1 p2 p3 p4 r0 r1 r2 r3 r4 r5 r6
 go_wp2_with fail
 refine (impl_ReadsOf i.term yk yn ys yA ym yc _ (HT.out.belowA BB.out) hnd).mono ?_
 rintro e w2 ⟨v2, rfl, own2⟩
 obtain ⟨A2, c2, rfl, hc2⟩ := own2.slice
 have hm2 := own_cap' own2
 unfold maxLen at hm2
 have RD2 := qh own2.rd
 have B2 := qh (below_then BB.out own2.2)
 have X2 := qh (BX.out.below own2.2)
 have C2 := qh (CX.out.below own2.2)
 clear own2 p0 p1 p2 p3 p4 r0 r1 r2 r3 r4 r5 r6 BB BX CX
 have BB := B2
 have BX := X2
 have CX := C2
 clear B2 X2 C2
 obtain ⟨p0, p1, p2, p3, p4⟩ := BX.out
 obtain ⟨r0, r1, r2, r3, r4, r5, r6⟩ := CX.out
 simp only at p0 p1 p2 p3 p4 r0 r1 r2 r3 r4 r5 r6
 have GS := qh (HP.out.belowA BB.out).gs
 go_wp2_with fail
 go_loop [49] (fun z => ∃ k : Nat, k ≤ (readsR i.term).length ∧ z = .int .i64 k ∧ Hid (((readsR i.term).take k).all (hasS p.globals) = true)) (fun z => (readsR i.term).length - (intOf z).toNat)
 case atStart => exact ⟨0, Nat.zero_le _, rfl, qh (by simp)⟩
 case round =>
  obtain ⟨k, hk, rfl, HT⟩ := hrel
  by_cases hlt : k < (readsR i.term).length
  ·obtain ⟨rb, roff, rfl, rcell⟩ := rd_str RD2.out hlt
   have h0k : (0 : Int) ≤ (k : Int) := by omega
   have h1k : (k : Int) < ((readsR i.term).length : Int) := by omega
   cases hh : hasS p.globals (readsR i.term)[k] with
   | false =>
    have F : Hid (insB p i b0 (e0 - 1) = false) := qh (insB_trm (trmB_miss (by rw [hopH.out]; simp) hlt hh))
    have HH := qh hh
    clear hh
    go_wp2_with (go_at_call 47; refine (slices_Contains _ p.globals _ _ GS.out).mono ?_; rintro e w' ⟨rfl, rfl⟩; rw [HH.out])
    go_ret
    exact ⟨ret_bool F.out.symm, BB.out⟩
   | true =>
    have T := qh (all_next hlt HT.out hh)
    have HH := qh hh
    clear hh
    go_wp2_with (go_at_call 47; refine (slices_Contains _ p.globals _ _ GS.out).mono ?_; rintro e w' ⟨rfl, rfl⟩; rw [HH.out])
    go_round
    case rel => exact ⟨k + 1, by omega, by go_num, T⟩
    case measure => simp [intOf]; omega
  ·have FIN : Hid (insB p i b0 (e0 - 1) = tgtB i b0 (e0 - 1)) := qh (insB_fin Q1.out Q2.out (trmB_yes (by rw [hopH.out]; simp) H3.out (by have := HT.out; rwa [List.take_of_length_le (by omega)] at this)))
   clear HT
   have TG : Hid (tgtB i b0 (e0 - 1) = inB i.to b0 (e0 - 1)) := qh (tgtB_jump (by rw [hopH.out]; simp))
   by_cases k1 : b0 ≤ i.to
   ·by_cases k2 : i.to < e0
    ·have F : Hid (insB p i b0 (e0 - 1) = true) := qh (by rw [FIN.out, TG.out]; exact inBi_yes k1 (by omega))
     go_wp2_with fail
     go_ret
     exact ⟨ret_bool (Eq.trans (by first | rfl | exact decide_no (by omega) | exact decide_eq_true (by omega)) F.out.symm), BB.out⟩
    ·have F : Hid (insB p i b0 (e0 - 1) = false) := qh (by rw [FIN.out, TG.out]; exact inBi_no (by omega))
     go_wp2_with fail
     go_ret
     exact ⟨ret_bool (Eq.trans (by first | rfl | exact decide_no (by omega) | exact decide_eq_true (by omega)) F.out.symm), BB.out⟩
   ·have F : Hid (insB p i b0 (e0 - 1) = false) := qh (by rw [FIN.out, TG.out]; exact inBi_no (by omega))
    go_wp2_with fail
    go_ret
    exact ⟨ret_bool F.out.symm, BB.out⟩
theorem impl_insRight_3 (p : Cd) (x : V5) (i : Ic) (y : V7) (b0 e0 : Int) (w : World) (hp : CdIs w x p) (hI : IcIs AnyB w y i) (hop : i.op = 3) (htt : totT i.term ≤ 1048576) :
  Calls Tryz.prog 26 #[x.val p, .agg #[.int .i64 y.op, .int .i64 y.arg, .int .i64 y.k, .int .i64 y.n, .string y.s, .slice y.A y.m y.c, .int .i64 y.to], .int .i64 b0, .int .i64 e0] w fun e w' => e = .returned (.bool (insB p i b0 (e0 - 1))) ∧ Below w.heap.size w w' := by
 obtain ⟨gA, gc, lA, lc, pA, pc, eA, ec, iA, ic⟩ := x
 obtain ⟨yo, ya, yk, yn, ys, yA, ym, yc, yt⟩ := y
 have HP := qh hp
 obtain ⟨ho, ha, hto, _, _, _, hT⟩ := hI
 simp only [V7.term] at ho ha hto hT
 have HT := qh hT
 have hnd : nodes i.term ≤ 10000000 := by have := nodes_tot i.term; omega
 clear hT hp htt
 subst ha hto
 unfold V5.val
 simp only
 have hopH := qh hop
 rw [hop] at ho
 subst ho
 have AM : Hid (argM p i.op = argM p 3) := qh (by rw [hop])
 have Q1 : Hid (inB i.op 1 9 = true) := qh (by rw [hop]; rfl)
 clear hop
 have B0 : Hid (Below w.heap.size w ((w.alloc (.cells #[.slice gA p.globals.length gc, .slice lA p.locks.length lc, .slice pA p.procs.length pc, .slice eA p.entry.length ec, .slice iA p.ins.length ic] 32)).alloc (.cells #[.int .i64 3, .int .i64 i.arg, .int .i64 yk, .int .i64 yn, .string ys, .slice yA ym yc, .int .i64 i.to] 45))) := qh zB
 have BX0 : Hid (Box5 ((w.alloc (.cells #[.slice gA p.globals.length gc, .slice lA p.locks.length lc, .slice pA p.procs.length pc, .slice eA p.entry.length ec, .slice iA p.ins.length ic] 32)).alloc (.cells #[.int .i64 3, .int .i64 i.arg, .int .i64 yk, .int .i64 yn, .string ys, .slice yA ym yc, .int .i64 i.to] 45)) w.heap.size ⟨gA, gc, lA, lc, pA, pc, eA, ec, iA, ic⟩ p) := qh ((Box5.new w ⟨gA, gc, lA, lc, pA, pc, eA, ec, iA, ic⟩ p _).below (Below.alloc (Below.refl _ _) (Nat.le_refl _) _))
 have CX0 : Hid (Cells7 ((w.alloc (.cells #[.slice gA p.globals.length gc, .slice lA p.locks.length lc, .slice pA p.procs.length pc, .slice eA p.entry.length ec, .slice iA p.ins.length ic] 32)).alloc (.cells #[.int .i64 3, .int .i64 i.arg, .int .i64 yk, .int .i64 yn, .string ys, .slice yA ym yc, .int .i64 i.to] 45)) (w.heap.size + 1) 0 ⟨3, i.arg, yk, yn, ys, yA, ym, yc, i.to⟩) := qh (by
  have := Cells7.new (w.alloc (.cells #[.slice gA p.globals.length gc, .slice lA p.locks.length lc, .slice pA p.procs.length pc, .slice eA p.entry.length ec, .slice iA p.ins.length ic] 32)) ⟨3, i.arg, yk, yn, ys, yA, ym, yc, i.to⟩ 45
  rwa [World.size_alloc] at this)
 by_cases l3 : i.arg < 0
 ·have l3' : decide (i.arg < 0) = true := decide_eq_true l3
  have F : Hid (insB p i b0 (e0 - 1) = false) := qh (arg_bad (by omega))
  go_enter Tryz.func26, Tryz.ntmps26
  go_wp2_with fail
  refine wp_region_later (by kernel_rfl) (by kernel_rfl) ?_
  intro gw hgw hcw
  have HG := qh hgw
  have HC := qh hcw
  clear hgw hcw
  have P := qh (fun n => BX0.out.below (HG.out n))
  have C := qh (fun n => CX0.out.below (HG.out n))
  obtain ⟨p0, p1, p2, p3, p4, r0, r1, r2, r3, r4, r5, r6⟩ := all12 P.out C.out
  simp only at p0 p1 p2 p3 p4 r0 r1 r2 r3 r4 r5 r6
  repeat (go_big_quiet_step ((first | (go_at_call 58; exact later_of HC (impl_argMost p ⟨gA, gc, lA, lc, pA, pc, eA, ec, iA, ic⟩ _ (HP.out.belowA (below_then B0.out (HG.out _))) _)))))
  refine wpQuiet_nil ?_
  intro _ hw'
  obtain ⟨nq, hw''⟩ := hw'
  subst hw''
  go_wp2_with fail
  go_ret
  exact ⟨ret_bool F.out.symm, below_then B0.out (HG.out _)⟩
 have l3' : decide (i.arg < 0) = false := decide_no l3
 by_cases l4 : argM p 3 ≤ i.arg
 ·have l4' : decide (argM p 3 ≤ i.arg) = true := decide_eq_true l4
  have F : Hid (insB p i b0 (e0 - 1) = false) := qh (arg_bad (by rw [AM.out]; omega))
  go_enter Tryz.func26, Tryz.ntmps26
  go_wp2_with fail
  refine wp_region_later (by kernel_rfl) (by kernel_rfl) ?_
  intro gw hgw hcw
  have HG := qh hgw
  have HC := qh hcw
  clear hgw hcw
  have P := qh (fun n => BX0.out.below (HG.out n))
  have C := qh (fun n => CX0.out.below (HG.out n))
  obtain ⟨p0, p1, p2, p3, p4, r0, r1, r2, r3, r4, r5, r6⟩ := all12 P.out C.out
  simp only at p0 p1 p2 p3 p4 r0 r1 r2 r3 r4 r5 r6
  repeat (go_big_quiet_step ((first | (go_at_call 58; exact later_of HC (impl_argMost p ⟨gA, gc, lA, lc, pA, pc, eA, ec, iA, ic⟩ _ (HP.out.belowA (below_then B0.out (HG.out _))) _)))))
  refine wpQuiet_nil ?_
  intro _ hw'
  obtain ⟨nq, hw''⟩ := hw'
  subst hw''
  go_wp2_with fail
  go_ret
  exact ⟨ret_bool F.out.symm, below_then B0.out (HG.out _)⟩
 have l4' : decide (argM p 3 ≤ i.arg) = false := decide_no l4
 have Q2 : Hid (inB i.arg 0 (mostC p i.op) = true) := qh (arg_good (by omega) (by rw [AM.out]; omega))
 cases h3 : sameB i.term zeroTm with
 | false =>
  have F : Hid (insB p i b0 (e0 - 1) = false) := qh (insB_trm (by rw [trmB_zero (by rw [hopH.out]; simp)]; exact h3))
  have H3 := qh h3
  clear h3
  go_enter Tryz.func26, Tryz.ntmps26
  go_wp2_with fail
  refine wp_region_later (by kernel_rfl) (by kernel_rfl) ?_
  intro gw hgw hcw
  have HG := qh hgw
  have HC := qh hcw
  clear hgw hcw
  have P := qh (fun n => BX0.out.below (HG.out n))
  have C := qh (fun n => CX0.out.below (HG.out n))
  obtain ⟨p0, p1, p2, p3, p4, r0, r1, r2, r3, r4, r5, r6⟩ := all12 P.out C.out
  simp only at p0 p1 p2 p3 p4 r0 r1 r2 r3 r4 r5 r6
  repeat (go_big_quiet_step ((first | (go_at_call 58; exact later_of HC (impl_argMost p ⟨gA, gc, lA, lc, pA, pc, eA, ec, iA, ic⟩ _ (HP.out.belowA (below_then B0.out (HG.out _))) _)))))
  refine wpQuiet_nil ?_
  intro _ hw'
  obtain ⟨nq, hw''⟩ := hw'
  subst hw''
  go_wp2_with fail
  refine (impl_isZeroTerm i.term yk yn ys yA ym yc _ (HT.out.belowA (below_then B0.out (HG.out _)))).mono ?_
  rintro e w1 ⟨rfl, b1⟩
  have BB : Hid (Below w.heap.size w w1) := qh (below_then (below_then B0.out (HG.out _)) b1)
  have BX := qh ((P.out _).below b1)
  have CX := qh ((C.out _).below b1)
  rw [H3.out]
  clear b1 p0 p1 p2 p3 p4 r0 r1 r2 r3 r4 r5 r6
  go_wp2_with fail
  go_ret
  exact ⟨ret_bool F.out.symm, BB.out⟩
 | true =>
 have FIN : Hid (insB p i b0 (e0 - 1) = tgtB i b0 (e0 - 1)) := qh (insB_fin Q1.out Q2.out (by rw [trmB_zero (by rw [hopH.out]; simp)]; exact h3))
 have H3 := qh h3
 clear h3
 go_enter Tryz.func26, Tryz.ntmps26
 go_wp2_with fail
 refine wp_region_later (by kernel_rfl) (by kernel_rfl) ?_
 intro gw hgw hcw
 have HG := qh hgw
 have HC := qh hcw
 clear hgw hcw
 have P := qh (fun n => BX0.out.below (HG.out n))
 have C := qh (fun n => CX0.out.below (HG.out n))
 obtain ⟨p0, p1, p2, p3, p4, r0, r1, r2, r3, r4, r5, r6⟩ := all12 P.out C.out
 simp only at p0 p1 p2 p3 p4 r0 r1 r2 r3 r4 r5 r6
 repeat (go_big_quiet_step ((first | (go_at_call 58; exact later_of HC (impl_argMost p ⟨gA, gc, lA, lc, pA, pc, eA, ec, iA, ic⟩ _ (HP.out.belowA (below_then B0.out (HG.out _))) _)))))
 refine wpQuiet_nil ?_
 intro _ hw'
 obtain ⟨nq, hw''⟩ := hw'
 subst hw''
 go_wp2_with fail
 refine (impl_isZeroTerm i.term yk yn ys yA ym yc _ (HT.out.belowA (below_then B0.out (HG.out _)))).mono ?_
 rintro e w1 ⟨rfl, b1⟩
 have BB : Hid (Below w.heap.size w w1) := qh (below_then (below_then B0.out (HG.out _)) b1)
 have BX := qh ((P.out _).below b1)
 have CX := qh ((C.out _).below b1)
 rw [H3.out]
 clear b1 p0 p1 p2 p3 p4 r0 r1 r2 r3 r4 r5 r6
 obtain ⟨p0, p1, p2, p3, p4⟩ := BX.out
 obtain ⟨r0, r1, r2, r3, r4, r5, r6⟩ := CX.out
 simp only at p0 p1 p2 p3 p4 r0 r1 r2 r3 r4 r5 r6
 have TG : Hid (tgtB i b0 (e0 - 1) = inB i.to b0 (e0 - 1)) := qh (tgtB_jump (by rw [hopH.out]; simp))
 by_cases k1 : b0 ≤ i.to
 ·by_cases k2 : i.to < e0
  ·have F : Hid (insB p i b0 (e0 - 1) = true) := qh (by rw [FIN.out, TG.out]; exact inBi_yes k1 (by omega))
   go_wp2_with fail
   go_ret
   exact ⟨ret_bool (Eq.trans (by first | rfl | exact decide_no (by omega) | exact decide_eq_true (by omega)) F.out.symm), BB.out⟩
  ·have F : Hid (insB p i b0 (e0 - 1) = false) := qh (by rw [FIN.out, TG.out]; exact inBi_no (by omega))
   go_wp2_with fail
   go_ret
   exact ⟨ret_bool (Eq.trans (by first | rfl | exact decide_no (by omega) | exact decide_eq_true (by omega)) F.out.symm), BB.out⟩
 ·have F : Hid (insB p i b0 (e0 - 1) = false) := qh (by rw [FIN.out, TG.out]; exact inBi_no (by omega))
  go_wp2_with fail
  go_ret
  exact ⟨ret_bool F.out.symm, BB.out⟩
theorem impl_insRight_o (p : Cd) (x : V5) (i : Ic) (y : V7) (b0 e0 : Int) (w : World) (hp : CdIs w x p) (hI : IcIs AnyB w y i) (h1 : i.op ≠ 1) (h2 : i.op ≠ 2) (h3 : i.op ≠ 3) (htt : totT i.term ≤ 1048576) :
  Calls Tryz.prog 26 #[x.val p, .agg #[.int .i64 y.op, .int .i64 y.arg, .int .i64 y.k, .int .i64 y.n, .string y.s, .slice y.A y.m y.c, .int .i64 y.to], .int .i64 b0, .int .i64 e0] w fun e w' => e = .returned (.bool (insB p i b0 (e0 - 1))) ∧ Below w.heap.size w w' := by
 obtain ⟨gA, gc, lA, lc, pA, pc, eA, ec, iA, ic⟩ := x
 obtain ⟨yo, ya, yk, yn, ys, yA, ym, yc, yt⟩ := y
 have HP := qh hp
 obtain ⟨ho, ha, hto, _, _, _, hT⟩ := hI
 simp only [V7.term] at ho ha hto hT
 have HT := qh hT
 have hnd : nodes i.term ≤ 10000000 := by have := nodes_tot i.term; omega
 clear hT hp htt
 subst ha hto
 unfold V5.val
 simp only
 subst ho
 have NO := qh (And.intro h1 (And.intro h2 h3))
 have f1 : (i.op == 1) = false := by simpa using h1
 have f2 : (i.op == 2) = false := by simpa using h2
 have f3 : (i.op == 3) = false := by simpa using h3
 have AM : Hid (argM p i.op = argM p i.op) := qh rfl
 clear h1 h2 h3
 have B0 : Hid (Below w.heap.size w ((w.alloc (.cells #[.slice gA p.globals.length gc, .slice lA p.locks.length lc, .slice pA p.procs.length pc, .slice eA p.entry.length ec, .slice iA p.ins.length ic] 32)).alloc (.cells #[.int .i64 i.op, .int .i64 i.arg, .int .i64 yk, .int .i64 yn, .string ys, .slice yA ym yc, .int .i64 i.to] 45))) := qh zB
 have BX0 : Hid (Box5 ((w.alloc (.cells #[.slice gA p.globals.length gc, .slice lA p.locks.length lc, .slice pA p.procs.length pc, .slice eA p.entry.length ec, .slice iA p.ins.length ic] 32)).alloc (.cells #[.int .i64 i.op, .int .i64 i.arg, .int .i64 yk, .int .i64 yn, .string ys, .slice yA ym yc, .int .i64 i.to] 45)) w.heap.size ⟨gA, gc, lA, lc, pA, pc, eA, ec, iA, ic⟩ p) := qh ((Box5.new w ⟨gA, gc, lA, lc, pA, pc, eA, ec, iA, ic⟩ p _).below (Below.alloc (Below.refl _ _) (Nat.le_refl _) _))
 have CX0 : Hid (Cells7 ((w.alloc (.cells #[.slice gA p.globals.length gc, .slice lA p.locks.length lc, .slice pA p.procs.length pc, .slice eA p.entry.length ec, .slice iA p.ins.length ic] 32)).alloc (.cells #[.int .i64 i.op, .int .i64 i.arg, .int .i64 yk, .int .i64 yn, .string ys, .slice yA ym yc, .int .i64 i.to] 45)) (w.heap.size + 1) 0 ⟨i.op, i.arg, yk, yn, ys, yA, ym, yc, i.to⟩) := qh (by
  have := Cells7.new (w.alloc (.cells #[.slice gA p.globals.length gc, .slice lA p.locks.length lc, .slice pA p.procs.length pc, .slice eA p.entry.length ec, .slice iA p.ins.length ic] 32)) ⟨i.op, i.arg, yk, yn, ys, yA, ym, yc, i.to⟩ 45
  rwa [World.size_alloc] at this)
 by_cases l1 : i.op < 1
 ·have l1' : decide (i.op < 1) = true := decide_eq_true l1
  have F : Hid (insB p i b0 (e0 - 1) = false) := qh (op_bad (.inl l1))
  go_enter Tryz.func26, Tryz.ntmps26
  go_wp2_with fail
  refine wp_region_later (by kernel_rfl) (by kernel_rfl) ?_
  intro gw hgw hcw
  have HG := qh hgw
  have HC := qh hcw
  clear hgw hcw
  have P := qh (fun n => BX0.out.below (HG.out n))
  have C := qh (fun n => CX0.out.below (HG.out n))
  obtain ⟨p0, p1, p2, p3, p4, r0, r1, r2, r3, r4, r5, r6⟩ := all12 P.out C.out
  simp only at p0 p1 p2 p3 p4 r0 r1 r2 r3 r4 r5 r6
  repeat (go_big_quiet_step ((first | (go_at_call 58; exact later_of HC (impl_argMost p ⟨gA, gc, lA, lc, pA, pc, eA, ec, iA, ic⟩ _ (HP.out.belowA (below_then B0.out (HG.out _))) _)))))
  refine wpQuiet_nil ?_
  intro _ hw'
  obtain ⟨nq, hw''⟩ := hw'
  subst hw''
  go_wp2_with fail
  go_ret
  exact ⟨ret_bool F.out.symm, below_then B0.out (HG.out _)⟩
 have l1' : decide (i.op < 1) = false := decide_no l1
 by_cases l2 : 9 < i.op
 ·have l2' : decide (9 < i.op) = true := decide_eq_true l2
  have F : Hid (insB p i b0 (e0 - 1) = false) := qh (op_bad (.inr l2))
  go_enter Tryz.func26, Tryz.ntmps26
  go_wp2_with fail
  refine wp_region_later (by kernel_rfl) (by kernel_rfl) ?_
  intro gw hgw hcw
  have HG := qh hgw
  have HC := qh hcw
  clear hgw hcw
  have P := qh (fun n => BX0.out.below (HG.out n))
  have C := qh (fun n => CX0.out.below (HG.out n))
  obtain ⟨p0, p1, p2, p3, p4, r0, r1, r2, r3, r4, r5, r6⟩ := all12 P.out C.out
  simp only at p0 p1 p2 p3 p4 r0 r1 r2 r3 r4 r5 r6
  repeat (go_big_quiet_step ((first | (go_at_call 58; exact later_of HC (impl_argMost p ⟨gA, gc, lA, lc, pA, pc, eA, ec, iA, ic⟩ _ (HP.out.belowA (below_then B0.out (HG.out _))) _)))))
  refine wpQuiet_nil ?_
  intro _ hw'
  obtain ⟨nq, hw''⟩ := hw'
  subst hw''
  go_wp2_with fail
  go_ret
  exact ⟨ret_bool F.out.symm, below_then B0.out (HG.out _)⟩
 have l2' : decide (9 < i.op) = false := decide_no l2
 have Q1 := qh (op_good l1 l2)
 by_cases l3 : i.arg < 0
 ·have l3' : decide (i.arg < 0) = true := decide_eq_true l3
  have F : Hid (insB p i b0 (e0 - 1) = false) := qh (arg_bad (by omega))
  go_enter Tryz.func26, Tryz.ntmps26
  go_wp2_with fail
  refine wp_region_later (by kernel_rfl) (by kernel_rfl) ?_
  intro gw hgw hcw
  have HG := qh hgw
  have HC := qh hcw
  clear hgw hcw
  have P := qh (fun n => BX0.out.below (HG.out n))
  have C := qh (fun n => CX0.out.below (HG.out n))
  obtain ⟨p0, p1, p2, p3, p4, r0, r1, r2, r3, r4, r5, r6⟩ := all12 P.out C.out
  simp only at p0 p1 p2 p3 p4 r0 r1 r2 r3 r4 r5 r6
  repeat (go_big_quiet_step ((first | (go_at_call 58; exact later_of HC (impl_argMost p ⟨gA, gc, lA, lc, pA, pc, eA, ec, iA, ic⟩ _ (HP.out.belowA (below_then B0.out (HG.out _))) _)))))
  refine wpQuiet_nil ?_
  intro _ hw'
  obtain ⟨nq, hw''⟩ := hw'
  subst hw''
  go_wp2_with fail
  go_ret
  exact ⟨ret_bool F.out.symm, below_then B0.out (HG.out _)⟩
 have l3' : decide (i.arg < 0) = false := decide_no l3
 by_cases l4 : argM p i.op ≤ i.arg
 ·have l4' : decide (argM p i.op ≤ i.arg) = true := decide_eq_true l4
  have F : Hid (insB p i b0 (e0 - 1) = false) := qh (arg_bad (by rw [AM.out]; omega))
  go_enter Tryz.func26, Tryz.ntmps26
  go_wp2_with fail
  refine wp_region_later (by kernel_rfl) (by kernel_rfl) ?_
  intro gw hgw hcw
  have HG := qh hgw
  have HC := qh hcw
  clear hgw hcw
  have P := qh (fun n => BX0.out.below (HG.out n))
  have C := qh (fun n => CX0.out.below (HG.out n))
  obtain ⟨p0, p1, p2, p3, p4, r0, r1, r2, r3, r4, r5, r6⟩ := all12 P.out C.out
  simp only at p0 p1 p2 p3 p4 r0 r1 r2 r3 r4 r5 r6
  repeat (go_big_quiet_step ((first | (go_at_call 58; exact later_of HC (impl_argMost p ⟨gA, gc, lA, lc, pA, pc, eA, ec, iA, ic⟩ _ (HP.out.belowA (below_then B0.out (HG.out _))) _)))))
  refine wpQuiet_nil ?_
  intro _ hw'
  obtain ⟨nq, hw''⟩ := hw'
  subst hw''
  go_wp2_with fail
  go_ret
  exact ⟨ret_bool F.out.symm, below_then B0.out (HG.out _)⟩
 have l4' : decide (argM p i.op ≤ i.arg) = false := decide_no l4
 have Q2 : Hid (inB i.arg 0 (mostC p i.op) = true) := qh (arg_good (by omega) (by rw [AM.out]; omega))
 cases h3 : sameB i.term zeroTm with
 | false =>
  have F : Hid (insB p i b0 (e0 - 1) = false) := qh (insB_trm (by rw [trmB_zero (fun h => h.elim NO.out.1 NO.out.2.1)]; exact h3))
  have H3 := qh h3
  clear h3
  go_enter Tryz.func26, Tryz.ntmps26
  go_wp2_with fail
  refine wp_region_later (by kernel_rfl) (by kernel_rfl) ?_
  intro gw hgw hcw
  have HG := qh hgw
  have HC := qh hcw
  clear hgw hcw
  have P := qh (fun n => BX0.out.below (HG.out n))
  have C := qh (fun n => CX0.out.below (HG.out n))
  obtain ⟨p0, p1, p2, p3, p4, r0, r1, r2, r3, r4, r5, r6⟩ := all12 P.out C.out
  simp only at p0 p1 p2 p3 p4 r0 r1 r2 r3 r4 r5 r6
  repeat (go_big_quiet_step ((first | (go_at_call 58; exact later_of HC (impl_argMost p ⟨gA, gc, lA, lc, pA, pc, eA, ec, iA, ic⟩ _ (HP.out.belowA (below_then B0.out (HG.out _))) _)))))
  refine wpQuiet_nil ?_
  intro _ hw'
  obtain ⟨nq, hw''⟩ := hw'
  subst hw''
  go_wp2_with fail
  refine (impl_isZeroTerm i.term yk yn ys yA ym yc _ (HT.out.belowA (below_then B0.out (HG.out _)))).mono ?_
  rintro e w1 ⟨rfl, b1⟩
  have BB : Hid (Below w.heap.size w w1) := qh (below_then (below_then B0.out (HG.out _)) b1)
  have BX := qh ((P.out _).below b1)
  have CX := qh ((C.out _).below b1)
  rw [H3.out]
  clear b1 p0 p1 p2 p3 p4 r0 r1 r2 r3 r4 r5 r6
  go_wp2_with fail
  go_ret
  exact ⟨ret_bool F.out.symm, BB.out⟩
 | true =>
 have FIN : Hid (insB p i b0 (e0 - 1) = tgtB i b0 (e0 - 1)) := qh (insB_fin Q1.out Q2.out (by rw [trmB_zero (fun h => h.elim NO.out.1 NO.out.2.1)]; exact h3))
 have H3 := qh h3
 clear h3
 go_enter Tryz.func26, Tryz.ntmps26
 go_wp2_with fail
 refine wp_region_later (by kernel_rfl) (by kernel_rfl) ?_
 intro gw hgw hcw
 have HG := qh hgw
 have HC := qh hcw
 clear hgw hcw
 have P := qh (fun n => BX0.out.below (HG.out n))
 have C := qh (fun n => CX0.out.below (HG.out n))
 obtain ⟨p0, p1, p2, p3, p4, r0, r1, r2, r3, r4, r5, r6⟩ := all12 P.out C.out
 simp only at p0 p1 p2 p3 p4 r0 r1 r2 r3 r4 r5 r6
 repeat (go_big_quiet_step ((first | (go_at_call 58; exact later_of HC (impl_argMost p ⟨gA, gc, lA, lc, pA, pc, eA, ec, iA, ic⟩ _ (HP.out.belowA (below_then B0.out (HG.out _))) _)))))
 refine wpQuiet_nil ?_
 intro _ hw'
 obtain ⟨nq, hw''⟩ := hw'
 subst hw''
 go_wp2_with fail
 refine (impl_isZeroTerm i.term yk yn ys yA ym yc _ (HT.out.belowA (below_then B0.out (HG.out _)))).mono ?_
 rintro e w1 ⟨rfl, b1⟩
 have BB : Hid (Below w.heap.size w w1) := qh (below_then (below_then B0.out (HG.out _)) b1)
 have BX := qh ((P.out _).below b1)
 have CX := qh ((C.out _).below b1)
 rw [H3.out]
 clear b1 p0 p1 p2 p3 p4 r0 r1 r2 r3 r4 r5 r6
 obtain ⟨p0, p1, p2, p3, p4⟩ := BX.out
 obtain ⟨r0, r1, r2, r3, r4, r5, r6⟩ := CX.out
 simp only at p0 p1 p2 p3 p4 r0 r1 r2 r3 r4 r5 r6
 have F : Hid (insB p i b0 (e0 - 1) = (i.to == 0)) := qh (by rw [FIN.out, tgtB_none (fun h => h.elim NO.out.2.1 NO.out.2.2)])
 go_wp2_with fail
 go_ret
 exact ⟨ret_bool F.out.symm, BB.out⟩
theorem impl_insRight (p : Cd) (x : V5) (i : Ic) (y : V7) (b0 e0 : Int) (w : World) (hp : CdIs w x p) (hI : IcIs AnyB w y i) (htt : totT i.term ≤ 1048576) :
  Calls Tryz.prog 26 #[x.val p, .agg #[.int .i64 y.op, .int .i64 y.arg, .int .i64 y.k, .int .i64 y.n, .string y.s, .slice y.A y.m y.c, .int .i64 y.to], .int .i64 b0, .int .i64 e0] w fun e w' => e = .returned (.bool (insB p i b0 (e0 - 1))) ∧ Below w.heap.size w w' := by
 by_cases h1 : i.op = 1
 ·exact impl_insRight_1 p x i y b0 e0 w hp hI h1 htt
 by_cases h2 : i.op = 2
 ·exact impl_insRight_2 p x i y b0 e0 w hp hI h2 htt
 by_cases h3 : i.op = 3
 ·exact impl_insRight_3 p x i y b0 e0 w hp hI h3 htt
 exact impl_insRight_o p x i y b0 e0 w hp hI h1 h2 h3 htt
end Go.Proofs.YtnmblfonmfjoeaaGreatDoor
