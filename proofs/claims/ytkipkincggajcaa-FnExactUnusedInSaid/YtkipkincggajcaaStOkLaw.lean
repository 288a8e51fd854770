/- StmtOk in the reference and in the program, and the law over them. -/
import Derived.Test.YtkipkincggajcaaStFit
import Derived.Test.YtkipkincggajcaaNamesIn
import Derived.Test.YtkipkincggajcaaPgEq
namespace Go.Proofs.Ytkipkincggajcaa
open Go.RowKit
set_option linter.unusedVariables false

theorem stRow1 {F : Nat → Prop} {w w2 : World} {x : V8} {g : St} (h : StIs AnyB w x g) (hb : Below w.heap.size w w2) (hF : ∀ b, b < w.heap.size → F b) {b : Nat} (hc : BoxB w2 b x.cells) (hFb : F b) : StRow F w2 (some ⟨b, 0, none⟩) [g] :=
  ⟨[x], rfl, ⟨by simp [v8_len], fun _ => ⟨b, 0, rfl, fun j u hu => by rw [Nat.zero_add]; exact hc j u (by simpa using hu)⟩⟩,
    fun b' off e _ => by injection e with e; injection e with e1; subst e1; exact hFb,
    fun i h1 h2 => by
      have : i = 0 := by simp at h1; omega
      subst this
      exact h.keep (fun _ hp _ => hb.cell hp) (fun b hb' _ => hF b hb')⟩
theorem totGs_one (g : St) : totGs [g] = totG g + 1 := by rw [totGs, totGs]; omega
set_option maxHeartbeats 800000 in
theorem spec_l04Ok (l : List St) (A : Option Addr) (c : Nat) (w : World) (row : StRow AnyB w A l) (hl : l.length ≤ c) (hc : c ≤ maxLen) (htot : totGs l ≤ 1048577) :
    Calls Try.prog 64 #[.slice A l.length c] w fun e w' => e = .returned (.bool (fitGs 6 60 l)) ∧ Below w.heap.size w w' := by
  have RW := Lib.hid row
  clear row
  by_cases h : snodess l ≤ 60
  · have HC := Lib.hid (cut0_pos (n := 60 - (snodess l : Int)) (by omega))
    have hd : decide ((60 : Int) - (snodess l : Int) ≥ 0) = true := decide_eq_true (by omega)
    have HF : Hid (fitGs 6 60 l = rightGs 6 l) := Lib.hid (by unfold fitGs; rw [decide_eq_true h, Bool.and_true])
    have hge : (0 : Int) ≤ 60 - (snodess l : Int) := by omega
    go_enter Try.func64, Try.ntmps64
    go_wp2_with fail
    refine (spec_l04Count l A c 60 _ RW.out hl hc (by omega) (by omega)).mono ?_
    rintro e w1 ⟨rfl, q1⟩
    have B1 := Lib.hid q1.below
    rw [HC.out]
    clear q1
    go_wp2_with fail
    refine (spec_l04Right l A c 6 _ (RW.out.belowA B1.out) hl hc htot (by omega)).mono ?_
    rintro e w2 ⟨rfl, b2⟩
    have B2 := Lib.hid (below_then B1.out b2)
    clear b2
    go_wp2_with fail
    go_ret
    exact ⟨ret_bool HF.out.symm, B2.out⟩
  · have HC := Lib.hid (cut0_neg (n := 60 - (snodess l : Int)) (by omega))
    have HF : Hid (fitGs 6 60 l = false) := Lib.hid (fit_no2 (by omega))
    go_enter Try.func64, Try.ntmps64
    go_wp2_with fail
    refine (spec_l04Count l A c 60 _ RW.out hl hc (by omega) (by omega)).mono ?_
    rintro e w1 ⟨rfl, q1⟩
    have B1 := Lib.hid q1.below
    rw [HC.out]
    clear q1
    go_wp2_with fail
    go_ret
    exact ⟨ret_bool HF.out.symm, B1.out⟩
set_option maxHeartbeats 800000 in
theorem spec_StmtOk (g : St) (x : V8) (w : World) (hg : StIs AnyB w x g) (htot : totGs [g] ≤ 1048577) :
    Calls Try.prog 16 #[.agg #[.int .i64 x.k, .string x.s, .int .i64 x.tk, .int .i64 x.tn, .string x.ts, .slice x.tA x.tm x.tc, .slice x.bA x.bm x.bc, .slice x.eA x.em x.ec]] w fun e w' => e = .returned (.bool (fitGs 6 60 [g])) ∧ Below w.heap.size w w' := by
  have HG := Lib.hid hg
  clear hg
  go_enter Try.func16, Try.ntmps16
  go_wp2_with fail
  refine (spec_l04Ok [g] (some ⟨w.heap.size + 1, 0, none⟩) 1 _ (stRow1 HG.out (by repeat' (first | exact Below.refl _ _ | exact Nat.le_refl _ | (refine Below.alloc ?_ ?_ _) | (refine Below.setCell ?_ ?_ _) | (refine Below.drew ?_) | (refine below_drewN ?_ _) | assumption | (simp; done) | (simp; omega))) (fun _ _ => trivial) (BoxB.lit (by simp)) trivial) (by simp) (by simp [maxLen]) htot).mono ?_
  rintro e w1 ⟨rfl, b1⟩
  have B1 : Hid (Below w.heap.size w w1) := Lib.hid (Below.trans (by repeat' (first | exact Below.refl _ _ | exact Nat.le_refl _ | (refine Below.alloc ?_ ?_ _) | (refine Below.setCell ?_ ?_ _) | (refine Below.drew ?_) | (refine below_drewN ?_ _) | assumption | (simp; done) | (simp; omega))) (b1.mono (by simp; omega)))
  clear b1
  go_wp2_with fail
  go_ret
  exact ⟨rfl, B1.out⟩
set_option maxHeartbeats 800000 in
theorem impl_StmtOk (g : St) (x : V8) (w : World) (hg : StIs AnyB w x g) (htot : totGs [g] ≤ 1048577) :
    Calls Try.prog 18 #[.agg #[.int .i64 x.k, .string x.s, .int .i64 x.tk, .int .i64 x.tn, .string x.ts, .slice x.tA x.tm x.tc, .slice x.bA x.bm x.bc, .slice x.eA x.em x.ec]] w fun e w' => e = .returned (.bool (fitGs 6 60 [g])) ∧ Below w.heap.size w w' := by
  have HG := Lib.hid hg
  clear hg
  go_enter Try.func18, Try.ntmps18
  go_wp2_with fail
  refine (impl_stmtsFit [g] (some ⟨w.heap.size + 1 + 1, 0, none⟩) 1 6 60 (w.heap.size + 1) _ (stRow1 HG.out (by repeat' (first | exact Below.refl _ _ | exact Nat.le_refl _ | (refine Below.alloc ?_ ?_ _) | (refine Below.setCell ?_ ?_ _) | (refine Below.drew ?_) | (refine below_drewN ?_ _) | assumption | (simp; done) | (simp; omega))) (fun b hb => by omega) (BoxB.lit (by simp)) (by show w.heap.size + 1 + 1 ≠ w.heap.size + 1; omega)) (by simp) (by simp [maxLen]) htot (by omega) (by omega) ?_).mono ?_
  · refine room_alloc ?_ _
    have := heap_alloc_new (w.alloc (.cells #[.int .i64 x.k, .string x.s, .int .i64 x.tk, .int .i64 x.tn, .string x.ts, .slice x.tA x.tm x.tc, .slice x.bA x.bm x.bc, .slice x.eA x.em x.ec] 35)) (.cells #[.int .i64 60] 3)
    rw [show (w.alloc (.cells #[.int .i64 x.k, .string x.s, .int .i64 x.tk, .int .i64 x.tn, .string x.ts, .slice x.tA x.tm x.tc, .slice x.bA x.bm x.bc, .slice x.eA x.em x.ec] 35)).heap.size = w.heap.size + 1 from by simp] at this
    exact this
  rintro e w1 ⟨rfl, k1, _⟩
  have B1 : Hid (Below w.heap.size w w1) := Lib.hid (Below.trans (by repeat' (first | exact Below.refl _ _ | exact Nat.le_refl _ | (refine Below.alloc ?_ ?_ _) | (refine Below.setCell ?_ ?_ _) | (refine Below.drew ?_) | (refine below_drewN ?_ _) | assumption | (simp; done) | (simp; omega))) (k1.below (by simp; omega) (fun b hb => by omega)))
  clear k1
  go_wp2_with fail
  go_ret
  exact ⟨rfl, B1.out⟩
def IsStmt (w : World) (v : Value) (g : St) : Prop := ∃ x : V8, v = .agg #[.int .i64 x.k, .string x.s, .int .i64 x.tk, .int .i64 x.tn, .string x.ts, .slice x.tA x.tm x.tc, .slice x.bA x.bm x.bc, .slice x.eA x.em x.ec] ∧ StIs AnyB w x g
set_option maxRecDepth 100000 in
theorem open_stmt {H : Type} {enc : TypeId × Value → H} {w : World} {r : Reach} {b0 base : Nat} {spare : Nat → Bool} {held : Bool} {v : Value} {d : DataW H} {p : List MemPlace} (hv : Value.okWide Try.prog w r b0 27 v) (h : DataW.Trod enc Try.prog w base spare held 27 v d p) : ∃ g, IsStmt w v g := by
  obtain ⟨cs, rfl, hsz⟩ := Go.WideShapes.okWide_struct Try.underlying27 hv
  obtain ⟨fuel, hf⟩ := h
  obtain ⟨g, x, e, hx⟩ := open_stmt_at fuel hf
  refine ⟨g, x, ?_, hx⟩
  have : cs = #[.int .i64 x.k, .string x.s, .int .i64 x.tk, .int .i64 x.tn, .string x.ts, .slice x.tA x.tm x.tc, .slice x.bA x.bm x.bc, .slice x.eA x.em x.ec] := by
    apply Array.ext'
    simpa [Value.cells, V8.cells] using e
  rw [this]
set_option maxHeartbeats 1600000 in
theorem law_StmtOk (v : Value) (g : St) (w : World) (o : IsStmt w v g) :
    Calls Try.prog 3 #[v] w fun e w' => e = .returned (.bool true) ∧ Below w.heap.size w w' := by
  obtain ⟨x, rfl, hp⟩ := o
  have HP := Lib.hid hp
  clear hp
  by_cases h1 : (1048576 : Int) - (totG g : Int) < 0
  · have C1 := Lib.hid (cut0_neg h1)
    go_enter Try.func3, Try.ntmps3
    go_wp2_with fail
    refine (laws_szStmt g x _ 1048576 (HP.out.belowA (by repeat' (first | exact Below.refl _ _ | exact Nat.le_refl _ | (refine Below.alloc ?_ ?_ _) | (refine Below.setCell ?_ ?_ _) | (refine Below.drew ?_) | (refine below_drewN ?_ _) | assumption | (simp; done) | (simp; omega)))) (by omega) (by omega)).mono ?_
    rintro e w1 ⟨rfl, b1⟩
    have B1 : Hid (Below w.heap.size w w1) := Lib.hid (Below.trans (by repeat' (first | exact Below.refl _ _ | exact Nat.le_refl _ | (refine Below.alloc ?_ ?_ _) | (refine Below.setCell ?_ ?_ _) | (refine Below.drew ?_) | (refine below_drewN ?_ _) | assumption | (simp; done) | (simp; omega))) (b1.mono (by simp)))
    rw [C1.out]
    clear b1
    go_wp2_with fail
    go_ret
    exact ⟨rfl, B1.out⟩
  have C1 := Lib.hid (cut0_pos (n := (1048576 : Int) - (totG g : Int)) (by omega))
  have htot : totG g ≤ 1048576 := by omega
  have htot1 : totGs [g] ≤ 1048577 := by rw [totGs_one]; omega
  have h1' : 0 ≤ (1048576 : Int) - (totG g : Int) := by omega
  go_enter Try.func3, Try.ntmps3
  go_wp2_with fail
  refine (laws_szStmt g x _ 1048576 (HP.out.belowA (by repeat' (first | exact Below.refl _ _ | exact Nat.le_refl _ | (refine Below.alloc ?_ ?_ _) | (refine Below.setCell ?_ ?_ _) | (refine Below.drew ?_) | (refine below_drewN ?_ _) | assumption | (simp; done) | (simp; omega)))) (by omega) (by omega)).mono ?_
  rintro e w1 ⟨rfl, b1⟩
  have H1 : Hid (Below w.heap.size w w1) := Lib.hid (Below.trans (by repeat' (first | exact Below.refl _ _ | exact Nat.le_refl _ | (refine Below.alloc ?_ ?_ _) | (refine Below.setCell ?_ ?_ _) | (refine Below.drew ?_) | (refine below_drewN ?_ _) | assumption | (simp; done) | (simp; omega))) (b1.mono (by simp)))
  have BX1 : Hid (BoxB w1 w.heap.size [.int .i64 x.k, .string x.s, .int .i64 x.tk, .int .i64 x.tn, .string x.ts, .slice x.tA x.tm x.tc, .slice x.bA x.bm x.bc, .slice x.eA x.em x.ec]) := Lib.hid (BoxB.below (BoxB.lit rfl) b1)
  rw [C1.out]
  clear b1
  have p0 := BX1.out 0 _ rfl
  have p1 := BX1.out 1 _ rfl
  have p2 := BX1.out 2 _ rfl
  have p3 := BX1.out 3 _ rfl
  have p4 := BX1.out 4 _ rfl
  have p5 := BX1.out 5 _ rfl
  have p6 := BX1.out 6 _ rfl
  have p7 := BX1.out 7 _ rfl
  go_wp2_with fail
  refine (laws_toStmt g x _ (HP.out.belowA H1.out) htot).mono ?_
  rintro e w2 ⟨x2, rfl, o2, b2⟩
  have T2 := Lib.hid o2.any
  have H2 := Lib.hid (below_then H1.out b2)
  have BX2 := Lib.hid (BX1.out.below b2)
  clear b2 o2 p0 p1 p2 p3 p4 p5 p6 p7 BX1 H1
  go_wp2_with fail
  refine (spec_StmtOk g x2 _ T2.out htot1).mono ?_
  rintro e w3 ⟨rfl, b3⟩
  have H3 := Lib.hid (below_then H2.out b3)
  have BX3 := Lib.hid (BX2.out.below b3)
  clear b3 BX2 H2 T2
  have p0 := BX3.out 0 _ rfl
  have p1 := BX3.out 1 _ rfl
  have p2 := BX3.out 2 _ rfl
  have p3 := BX3.out 3 _ rfl
  have p4 := BX3.out 4 _ rfl
  have p5 := BX3.out 5 _ rfl
  have p6 := BX3.out 6 _ rfl
  have p7 := BX3.out 7 _ rfl
  go_wp2_with fail
  refine (laws_toStmt g x _ (HP.out.belowA H3.out) htot).mono ?_
  rintro e w4 ⟨x4, rfl, o4, b4⟩
  have T4 := Lib.hid o4.any
  have H4 := Lib.hid (below_then H3.out b4)
  have BX4 := Lib.hid (BX3.out.below b4)
  clear b4 o4 p0 p1 p2 p3 p4 p5 p6 p7 BX3 H3
  go_wp2_with fail
  refine (impl_StmtOk g x4 _ (T4.out.belowA (by repeat' (first | exact Below.refl _ _ | exact Nat.le_refl _ | (refine Below.alloc ?_ ?_ _) | (refine Below.setCell ?_ ?_ _) | (refine Below.drew ?_) | (refine below_drewN ?_ _) | assumption | (simp; done) | (simp; omega)))) htot1).mono ?_
  rintro e w5 ⟨rfl, b5⟩
  have B5 : Below w4.heap.size w4 w5 := Below.trans (Below.alloc (Below.refl _ _) (Nat.le_refl _) _) (b5.mono (by simp))
  have BY5 : Hid (BoxB w5 w4.heap.size [.int .i64 x4.k, .string x4.s, .int .i64 x4.tk, .int .i64 x4.tn, .string x4.ts, .slice x4.tA x4.tm x4.tc, .slice x4.bA x4.bm x4.bc, .slice x4.eA x4.em x4.ec]) := Lib.hid (BoxB.below (BoxB.lit rfl) b5)
  have BX5 := Lib.hid (BX4.out.below B5)
  have T5 := Lib.hid (T4.out.belowA B5)
  have H5 := Lib.hid (below_then H4.out B5)
  have P5 := Lib.hid (HP.out.belowA H5.out)
  have hne : (fitGs 6 60 [g] != fitGs 6 60 [g]) = false := by simp
  have st : sameG g g = true := sameG_yes rfl
  clear b5 B5 BX4 H4 T4
  have p0 := BX5.out 0 _ rfl
  have p1 := BX5.out 1 _ rfl
  have p2 := BX5.out 2 _ rfl
  have p3 := BX5.out 3 _ rfl
  have p4 := BX5.out 4 _ rfl
  have p5 := BX5.out 5 _ rfl
  have p6 := BX5.out 6 _ rfl
  have p7 := BX5.out 7 _ rfl
  have r0 := BY5.out 0 _ rfl
  have r1 := BY5.out 1 _ rfl
  have r2 := BY5.out 2 _ rfl
  have r3 := BY5.out 3 _ rfl
  have r4 := BY5.out 4 _ rfl
  have r5 := BY5.out 5 _ rfl
  have r6 := BY5.out 6 _ rfl
  have r7 := BY5.out 7 _ rfl
  go_wp2_with fail
  go_region_held3 (fun w' => w'.cell? ⟨w.heap.size, 0, none⟩ = some (.int .i64 x.k) ∧ w'.cell? ⟨w.heap.size, 1, none⟩ = some (.string x.s) ∧ w'.cell? ⟨w.heap.size, 2, none⟩ = some (.int .i64 x.tk) ∧ w'.cell? ⟨w.heap.size, 3, none⟩ = some (.int .i64 x.tn) ∧ w'.cell? ⟨w.heap.size, 4, none⟩ = some (.string x.ts) ∧ w'.cell? ⟨w.heap.size, 5, none⟩ = some (.slice x.tA x.tm x.tc) ∧ w'.cell? ⟨w.heap.size, 6, none⟩ = some (.slice x.bA x.bm x.bc) ∧ w'.cell? ⟨w.heap.size, 7, none⟩ = some (.slice x.eA x.em x.ec) ∧ w'.cell? ⟨w4.heap.size, 0, none⟩ = some (.int .i64 x4.k) ∧ w'.cell? ⟨w4.heap.size, 1, none⟩ = some (.string x4.s) ∧ w'.cell? ⟨w4.heap.size, 2, none⟩ = some (.int .i64 x4.tk) ∧ w'.cell? ⟨w4.heap.size, 3, none⟩ = some (.int .i64 x4.tn) ∧ w'.cell? ⟨w4.heap.size, 4, none⟩ = some (.string x4.ts) ∧ w'.cell? ⟨w4.heap.size, 5, none⟩ = some (.slice x4.tA x4.tm x4.tc) ∧ w'.cell? ⟨w4.heap.size, 6, none⟩ = some (.slice x4.bA x4.bm x4.bc) ∧ w'.cell? ⟨w4.heap.size, 7, none⟩ = some (.slice x4.eA x4.em x4.ec))
    (first | go_keep | (go_split_ands; refine ⟨?_, ?_, ?_, ?_, ?_, ?_, ?_, ?_, ?_, ?_, ?_, ?_, ?_, ?_, ?_, ?_⟩ <;> first | exact cell_keep b10 (by assumption) | exact cell_keep b9 (by assumption)))
    (first
      | (go_at_call 17; (refine (laws_toStmt g x _ (by exact P5.out.drew) htot).mono ?_); rintro e w9 ⟨x9, rfl, o9, b9⟩)
      | (go_at_call 19; refine (laws_eqStmt g g x4 x9 _ (by exact T5.out.drew.belowA b9) (by exact o9.any)).mono ?_; rintro e w10 ⟨rfl, b10⟩))
  have b910 : Below w5.heap.size w5 w10 := below_then (Below.trans (Below.refl _ _).drew b9) b10
  have H10 := Lib.hid (below_then H5.out b910)
  clear b9 b10 b910 o9
  go_wp2_with fail
  go_ret
  exact ⟨rfl, H10.out⟩
end Go.Proofs.Ytkipkincggajcaa
