/- Several texts in one: RsStI. -/
import Derived.Test.YtdanlgmpgdipnaaDoorKd23
import Derived.Test.YtdanlgmpgdipnaaDoorKd27
import Derived.Test.YtdanlgmpgdipnaaDoorKd28
import Derived.Test.YtdanlgmpgdipnaaDoorKd36
namespace Go.Proofs.YtdanlgmpgdipnaaDoor
open Go.RowKit
set_option linter.unusedVariables false


theorem kd1 {p : Prop} [Decidable p] : (decide ((0 : Int) = 0) && decide p) = decide p := by simp
theorem kd2 (b : Bool) : (decide ((0 : Int) = 0) && b) = b := by simp
theorem RsAt.setl {w : World} {rb : Nat} {A : Option Addr} {c n i : Nat} {L : List Sg} {fc : Int} {fp : Nat} {lf : Int} (h : RsAt w rb A c n i L fc fp lf) (lf' : Int) : RsAt (w.setCell ⟨rb, 5, none⟩ (.int .i64 lf')) rb A c n i L fc fp lf' :=
  ⟨by have hh := h.cells; simp [World.setCell, Array.getElem?_modify, hh], rd_set h.rd h.off, h.off, h.hi, h.hL, h.hc⟩
theorem KeepR.setg {w w' : World} {rb g o : Nat} (h : KeepR rb w w') (hg : w.heap.size ≤ g) (v : Value) : KeepR rb w (w'.setCell ⟨g, o, none⟩ v) :=
  ⟨h.os, h.tape, h.output, by simpa using h.size, fun b hb hS => (Below.heap_setCell w' ⟨g, o, none⟩ v b (by show b ≠ g; omega)).trans (h.block b hb hS)⟩
theorem KeepR.setr {w w' : World} {rb o : Nat} (h : KeepR rb w w') (v : Value) : KeepR rb w (w'.setCell ⟨rb, o, none⟩ v) :=
  ⟨h.os, h.tape, h.output, by simpa using h.size, fun b hb hS => (Below.heap_setCell w' ⟨rb, o, none⟩ v b (by exact hS)).trans (h.block b hb hS)⟩
theorem KeepR.put8 {w w' : World} {rb g : Nat} (h : KeepR rb w w') (hg : w.heap.size ≤ g) (x : V8) : KeepR rb w (put8 w' g 0 x) :=
  KeepR.setg (KeepR.setg (KeepR.setg (KeepR.setg (KeepR.setg (KeepR.setg (KeepR.setg (KeepR.setg h (o := 0) hg (.int .i64 x.k)) (o := 0 + 1) hg (.string x.s)) (o := 0 + 2) hg (.int .i64 x.tk)) (o := 0 + 3) hg (.int .i64 x.tn)) (o := 0 + 4) hg (.string x.ts)) (o := 0 + 5) hg (.slice x.tA x.tm x.tc)) (o := 0 + 6) hg (.slice x.bA x.bm x.bc)) (o := 0 + 7) hg (.slice x.eA x.em x.ec)
theorem RsAt.put8 {w : World} {rb : Nat} {A : Option Addr} {c n i : Nat} {L : List Sg} {fc : Int} {fp : Nat} {lf : Int} (h : RsAt w rb A c n i L fc fp lf) {g : Nat} (hg : g ≠ rb) (hA : ∀ b o, A = some ⟨b, o, none⟩ → b ≠ g) (x : V8) : RsAt (put8 w g 0 x) rb A c n i L fc fp lf :=
  (((((((h.setg hg hA 0 (.int .i64 x.k)).setg hg hA (0 + 1) (.string x.s)).setg hg hA (0 + 2) (.int .i64 x.tk)).setg hg hA (0 + 3) (.int .i64 x.tn)).setg hg hA (0 + 4) (.string x.ts)).setg hg hA (0 + 5) (.slice x.tA x.tm x.tc)).setg hg hA (0 + 6) (.slice x.bA x.bm x.bc)).setg hg hA (0 + 7) (.slice x.eA x.em x.ec)
theorem s8_0 {w : World} {g : Nat} {a0 a1 a2 a3 a4 a5 a6 a7 : Value} {T : TypeId} (h : w.heap[g]? = some (.cells #[a0, a1, a2, a3, a4, a5, a6, a7] T (0, 0))) (v : Value) : (w.setCell ⟨g, 0, none⟩ v).heap[g]? = some (.cells #[v, a1, a2, a3, a4, a5, a6, a7] T (0, 0)) := by simp [World.setCell, Array.getElem?_modify, h]
/-- what reading a statement, statements leaves in the reference -/
def GsS1 (w w' : World) (rb : Nat) (A : Option Addr) (c n : Nat) (L : List Sg) (g : Got (St × Nat)) (e : Ending) : Prop :=
  KeepR rb w w' ∧ ∃ x : V8, e = .returned (.agg #[.int .i64 x.k, .string x.s, .int .i64 x.tk, .int .i64 x.tn, .string x.ts, .slice x.tA x.tm x.tc, .slice x.bA x.bm x.bc, .slice x.eA x.em x.ec]) ∧ match g with
    | .ok b q => StO w' (Made w w') x b.1 ∧ RsAt w' rb A c n q L 0 0 (b.2 : Int)
    | .bad fc fp => ¬ fc = 0 ∧ ∃ q lf, RsAt w' rb A c n q L fc fp lf
def GsSs (w w' : World) (rb : Nat) (A : Option Addr) (c n : Nat) (L : List Sg) (g : Got (List St × Nat)) (e : Ending) : Prop :=
  KeepR rb w w' ∧ ∃ A' m c', e = .returned (.slice A' m c') ∧ match g with
    | .ok b q => m = b.1.length ∧ m ≤ c' ∧ c' ≤ maxLen ∧ StRowO w' (Made w w') A' b.1 ∧ RsAt w' rb A c n q L 0 0 (b.2 : Int)
    | .bad fc fp => ¬ fc = 0 ∧ ∃ q lf, RsAt w' rb A c n q L fc fp lf
abbrev SpSC (r : Nat) : Prop := ∀ (w : World) (rb : Nat) (A : Option Addr) (c n i : Nat) (L : List Sg) (left : Nat), SgsOk L → (∀ b o, A = some ⟨b, o, none⟩ → b < w.heap.size) → left ≤ 60 → RsAt w rb A c n i L 0 0 (left : Int) →
  Calls Tryd.prog 16 #[.pointer (some ⟨rb, 0, none⟩), .int .i64 (r : Int)] w fun e w' => GsSs w w' rb A c n L (rdS L n r i left) e
/-- the ends of the reader of a statement -/
theorem finRB {w Wn : World} {rb : Nat} {A : Option Addr} {c n q : Nat} {L : List Sg} {fc : Int} {fp g : Nat} {lf : Int} (x : V8) (hg : w.heap.size = g) (hk : KeepR rb w Wn) (hr : RsAt Wn rb A c n q L fc fp lf) (hf : ¬ fc = 0) (hA : ∀ b o, A = some ⟨b, o, none⟩ → b ≠ g) (hrb : g ≠ rb) :
    GsS1 w (put8 Wn g 0 x) rb A c n L (.bad fc fp) (.returned (.agg #[.int .i64 x.k, .string x.s, .int .i64 x.tk, .int .i64 x.tn, .string x.ts, .slice x.tA x.tm x.tc, .slice x.bA x.bm x.bc, .slice x.eA x.em x.ec])) :=
  ⟨KeepR.put8 hk (by omega) x, x, rfl, hf, q, lf, hr.put8 hrb hA x⟩
theorem finRO {w Wn : World} {rb : Nat} {A : Option Addr} {c n q : Nat} {L : List Sg} {g left' : Nat} {F : Nat → Prop} {s : St} (x : V8) (hg : w.heap.size = g) (hk : KeepR rb w Wn) (hr : RsAt Wn rb A c n q L 0 0 (left' : Int)) (hA : ∀ b o, A = some ⟨b, o, none⟩ → b ≠ g) (hrb : g ≠ rb)
    (hs : StO Wn F x s) (hF : ∀ b, F b → w.heap.size < b ∧ b < Wn.heap.size) :
    GsS1 w (put8 Wn g 0 x) rb A c n L (.ok (s, left') q) (.returned (.agg #[.int .i64 x.k, .string x.s, .int .i64 x.tk, .int .i64 x.tn, .string x.ts, .slice x.tA x.tm x.tc, .slice x.bA x.bm x.bc, .slice x.eA x.em x.ec])) :=
  ⟨KeepR.put8 hk (by omega) x, x, rfl, (hs.put8 (g := g) (fun h => by have := (hF _ h).1; omega) 0 x).sub (fun b hb => ⟨by have := (hF b hb).1; omega, by rw [put8_size]; exact (hF b hb).2⟩), hr.put8 hrb hA x⟩
theorem word_wd {L : List Sg} {i : Nat} {k : Int} (hk : 2 ≤ k ∧ k ≤ 8) (h : tx L i = wdB k) : wordOf L i = k := by
  have hc : k = 2 ∨ k = 3 ∨ k = 4 ∨ k = 5 ∨ k = 6 ∨ k = 7 ∨ k = 8 := by omega
  unfold wordOf
  rw [h]
  rcases hc with rfl | rfl | rfl | rfl | rfl | rfl | rfl <;> (repeat' split) <;> first | rfl | (exfalso; simp_all [wdB, tIf, tWhile, tCall, tSpawn, tLock, tUnlock, tSkip]; done)
theorem wd_word {L : List Sg} {i : Nat} {k : Int} (hk : 2 ≤ k) (h : wordOf L i = k) : tx L i = wdB k ∧ k ≤ 8 ∧ nmB L i = false := by
  have key : ∀ t : ByteArray, isNameL t.data.toList = false → tx L i = t → nmB L i = false := fun t ht e => by unfold nmB; rw [e]; exact ht
  subst h
  revert hk
  unfold wordOf
  repeat' split
  all_goals intro hk
  all_goals first
    | omega
    | (next e => exact ⟨by rw [e]; decide, by decide, key _ (by decide) e⟩)
theorem wdB_ne (k : Int) : wdB k ≠ ⟨#[]⟩ := by
  unfold wdB
  repeat' split
  all_goals decide
theorem beg_nm {L : List Sg} {i : Nat} (h : nmB L i = true) : ¬ wordOf L i = 0 := by
  unfold wordOf
  repeat' split
  all_goals first
    | decide
    | (next h2 => exact absurd h h2)
theorem beg_wd {L : List Sg} {i : Nat} {k : Int} (hk : 2 ≤ k ∧ k ≤ 8) (h : tx L i = wdB k) : ¬ wordOf L i = 0 := by rw [word_wd hk h]; omega
theorem beg_no {L : List Sg} {i : Nat} (h0 : nmB L i = false) (h1 : ¬ tx L i = tCall) (h2 : ¬ tx L i = tSpawn) (h3 : ¬ tx L i = tLock) (h4 : ¬ tx L i = tUnlock) (h5 : ¬ tx L i = tSkip) (h6 : ¬ tx L i = tWhile) (h7 : ¬ tx L i = tIf) : wordOf L i = 0 := by
  unfold wordOf
  rw [if_neg h7, if_neg h6, if_neg h1, if_neg h2, if_neg h3, if_neg h4, if_neg h5, if_neg (by rw [h0]; decide)]
theorem spec_wordK (k : Int) (hk : k = 2 ∨ k = 3 ∨ k = 4 ∨ k = 5 ∨ k = 6 ∨ k = 7 ∨ k = 8) (w : World) : Calls Tryd.prog 47 #[.int .i64 k] w fun e w' => e = .returned (.string (wdB k)) ∧ Below w.heap.size w w' := by
  rcases hk with rfl | rfl | rfl | rfl | rfl | rfl | rfl
  all_goals
    go_enter Tryd.func47, Tryd.ntmps47
    go_wp2_with fail
    go_ret
    exact ⟨rfl, (by repeat' (first | exact Below.refl _ _ | exact Nat.le_refl _ | (refine Below.alloc ?_ ?_ _) | (refine Below.setCell ?_ ?_ _) | (refine Below.drew ?_) | (refine below_drewN ?_ _) | assumption | (simp; done) | (simp; omega)))⟩
set_option maxHeartbeats 1600000 in
set_option maxRecDepth 100000 in
theorem rs_begins_fault (w : World) (rb : Nat) (A : Option Addr) (c n i : Nat) (L : List Sg) (fc : Int) (fp : Nat) (lf : Int) (h : RsAt w rb A c n i L fc fp lf) (hf : ¬ fc = 0) :
    Calls Tryd.prog 27 #[.pointer (some ⟨rb, 0, none⟩)] w fun e w' => e = .returned (.bool false) ∧ Below w.heap.size w w' := by
  have RR := Lib.hid h
  have HF := Lib.hid hf
  have BB := Lib.hid (Below.refl w.heap.size w)
  clear h hf
  go_enter Tryd.func27, Tryd.ntmps27
  go_wp2_with fail
  refine (rs_named_fault _ rb A c n i L fc fp lf RR.out HF.out).mono ?_
  rintro e w1 ⟨rfl, b1⟩
  replace RR := Lib.hid (RR.out.below b1)
  replace BB := Lib.hid (below_then BB.out b1)
  clear b1
  go_wp2_with fail
  refine (rs_is_fault ⟨#[99, 97, 108, 108]⟩ _ rb A c n i L fc fp lf RR.out HF.out).mono ?_
  rintro e w2 ⟨rfl, b1⟩
  replace RR := Lib.hid (RR.out.below b1)
  replace BB := Lib.hid (below_then BB.out b1)
  clear b1
  go_wp2_with fail
  refine (rs_is_fault ⟨#[115, 112, 97, 119, 110]⟩ _ rb A c n i L fc fp lf RR.out HF.out).mono ?_
  rintro e w3 ⟨rfl, b1⟩
  replace RR := Lib.hid (RR.out.below b1)
  replace BB := Lib.hid (below_then BB.out b1)
  clear b1
  go_wp2_with fail
  refine (rs_is_fault ⟨#[108, 111, 99, 107]⟩ _ rb A c n i L fc fp lf RR.out HF.out).mono ?_
  rintro e w4 ⟨rfl, b1⟩
  replace RR := Lib.hid (RR.out.below b1)
  replace BB := Lib.hid (below_then BB.out b1)
  clear b1
  go_wp2_with fail
  refine (rs_is_fault ⟨#[117, 110, 108, 111, 99, 107]⟩ _ rb A c n i L fc fp lf RR.out HF.out).mono ?_
  rintro e w5 ⟨rfl, b1⟩
  replace RR := Lib.hid (RR.out.below b1)
  replace BB := Lib.hid (below_then BB.out b1)
  clear b1
  go_wp2_with fail
  refine (rs_is_fault ⟨#[115, 107, 105, 112]⟩ _ rb A c n i L fc fp lf RR.out HF.out).mono ?_
  rintro e w6 ⟨rfl, b1⟩
  replace RR := Lib.hid (RR.out.below b1)
  replace BB := Lib.hid (below_then BB.out b1)
  clear b1
  go_wp2_with fail
  refine (rs_is_fault ⟨#[119, 104, 105, 108, 101]⟩ _ rb A c n i L fc fp lf RR.out HF.out).mono ?_
  rintro e w7 ⟨rfl, b1⟩
  replace RR := Lib.hid (RR.out.below b1)
  replace BB := Lib.hid (below_then BB.out b1)
  clear b1
  go_wp2_with fail
  refine (rs_is_fault ⟨#[105, 102]⟩ _ rb A c n i L fc fp lf RR.out HF.out).mono ?_
  rintro e w8 ⟨rfl, b1⟩
  replace RR := Lib.hid (RR.out.below b1)
  replace BB := Lib.hid (below_then BB.out b1)
  clear b1
  go_wp2_with fail
  go_ret
  exact ⟨rfl, BB.out⟩
set_option maxHeartbeats 1600000 in
set_option maxRecDepth 100000 in
theorem rs_begins (w : World) (rb : Nat) (A : Option Addr) (c n i : Nat) (L : List Sg) (fp : Nat) (lf : Int) (hs : SgsOk L) (h : RsAt w rb A c n i L 0 fp lf) :
    Calls Tryd.prog 27 #[.pointer (some ⟨rb, 0, none⟩)] w fun e w' => e = .returned (.bool (decide (¬ wordOf L i = 0))) ∧ Below w.heap.size w w' := by
  have RR := Lib.hid h
  have HS := Lib.hid hs
  have BB := Lib.hid (Below.refl w.heap.size w)
  clear h hs
  cases h0 : nmB L i with
  | true =>
    have HN := Lib.hid h0
    have F : Hid (decide (¬ wordOf L i = 0) = true) := Lib.hid (decide_eq_true (beg_nm h0))
    clear h0
    go_enter Tryd.func27, Tryd.ntmps27
    go_wp2_with fail
    refine (rs_named _ rb A c n i L 0 fp lf RR.out HS.out).mono ?_
    rintro e w1 ⟨rfl, b1⟩
    rw [kd2, HN.out]
    have B1 := Lib.hid b1
    clear b1
    go_wp2_with fail
    go_ret
    rw [F.out]
    exact ⟨rfl, B1.out⟩
  | false =>
    have HN := Lib.hid h0
    clear h0
    by_cases h0 : tx L i = ⟨#[99, 97, 108, 108]⟩
    · have H0 := Lib.hid h0
      have F : Hid (decide (¬ wordOf L i = 0) = true) := Lib.hid (decide_eq_true (beg_wd (k := 4) (by decide) h0))
      clear h0
      go_enter Tryd.func27, Tryd.ntmps27
      go_wp2_with fail
      refine (rs_named _ rb A c n i L 0 fp lf RR.out HS.out).mono ?_
      rintro e w1 ⟨rfl, b1⟩
      rw [kd2, HN.out]
      replace RR := Lib.hid (RR.out.below b1)
      replace BB := Lib.hid (below_then BB.out b1)
      clear b1
      go_wp2_with fail
      refine (rs_is ⟨#[99, 97, 108, 108]⟩ _ rb A c n i L 0 fp lf RR.out (by decide)).mono ?_
      rintro e w2 ⟨rfl, b1⟩
      rw [kd1, decide_eq_true H0.out]
      replace RR := Lib.hid (RR.out.below b1)
      replace BB := Lib.hid (below_then BB.out b1)
      clear b1
      go_wp2_with fail
      go_ret
      rw [F.out]
      exact ⟨rfl, BB.out⟩
    have H0 := Lib.hid h0
    clear h0
    by_cases h1 : tx L i = ⟨#[115, 112, 97, 119, 110]⟩
    · have H1 := Lib.hid h1
      have F : Hid (decide (¬ wordOf L i = 0) = true) := Lib.hid (decide_eq_true (beg_wd (k := 5) (by decide) h1))
      clear h1
      go_enter Tryd.func27, Tryd.ntmps27
      go_wp2_with fail
      refine (rs_named _ rb A c n i L 0 fp lf RR.out HS.out).mono ?_
      rintro e w1 ⟨rfl, b1⟩
      rw [kd2, HN.out]
      replace RR := Lib.hid (RR.out.below b1)
      replace BB := Lib.hid (below_then BB.out b1)
      clear b1
      go_wp2_with fail
      refine (rs_is ⟨#[99, 97, 108, 108]⟩ _ rb A c n i L 0 fp lf RR.out (by decide)).mono ?_
      rintro e w2 ⟨rfl, b1⟩
      rw [kd1, decide_eq_false H0.out]
      replace RR := Lib.hid (RR.out.below b1)
      replace BB := Lib.hid (below_then BB.out b1)
      clear b1
      go_wp2_with fail
      refine (rs_is ⟨#[115, 112, 97, 119, 110]⟩ _ rb A c n i L 0 fp lf RR.out (by decide)).mono ?_
      rintro e w3 ⟨rfl, b1⟩
      rw [kd1, decide_eq_true H1.out]
      replace RR := Lib.hid (RR.out.below b1)
      replace BB := Lib.hid (below_then BB.out b1)
      clear b1
      go_wp2_with fail
      go_ret
      rw [F.out]
      exact ⟨rfl, BB.out⟩
    have H1 := Lib.hid h1
    clear h1
    by_cases h2 : tx L i = ⟨#[108, 111, 99, 107]⟩
    · have H2 := Lib.hid h2
      have F : Hid (decide (¬ wordOf L i = 0) = true) := Lib.hid (decide_eq_true (beg_wd (k := 6) (by decide) h2))
      clear h2
      go_enter Tryd.func27, Tryd.ntmps27
      go_wp2_with fail
      refine (rs_named _ rb A c n i L 0 fp lf RR.out HS.out).mono ?_
      rintro e w1 ⟨rfl, b1⟩
      rw [kd2, HN.out]
      replace RR := Lib.hid (RR.out.below b1)
      replace BB := Lib.hid (below_then BB.out b1)
      clear b1
      go_wp2_with fail
      refine (rs_is ⟨#[99, 97, 108, 108]⟩ _ rb A c n i L 0 fp lf RR.out (by decide)).mono ?_
      rintro e w2 ⟨rfl, b1⟩
      rw [kd1, decide_eq_false H0.out]
      replace RR := Lib.hid (RR.out.below b1)
      replace BB := Lib.hid (below_then BB.out b1)
      clear b1
      go_wp2_with fail
      refine (rs_is ⟨#[115, 112, 97, 119, 110]⟩ _ rb A c n i L 0 fp lf RR.out (by decide)).mono ?_
      rintro e w3 ⟨rfl, b1⟩
      rw [kd1, decide_eq_false H1.out]
      replace RR := Lib.hid (RR.out.below b1)
      replace BB := Lib.hid (below_then BB.out b1)
      clear b1
      go_wp2_with fail
      refine (rs_is ⟨#[108, 111, 99, 107]⟩ _ rb A c n i L 0 fp lf RR.out (by decide)).mono ?_
      rintro e w4 ⟨rfl, b1⟩
      rw [kd1, decide_eq_true H2.out]
      replace RR := Lib.hid (RR.out.below b1)
      replace BB := Lib.hid (below_then BB.out b1)
      clear b1
      go_wp2_with fail
      go_ret
      rw [F.out]
      exact ⟨rfl, BB.out⟩
    have H2 := Lib.hid h2
    clear h2
    by_cases h3 : tx L i = ⟨#[117, 110, 108, 111, 99, 107]⟩
    · have H3 := Lib.hid h3
      have F : Hid (decide (¬ wordOf L i = 0) = true) := Lib.hid (decide_eq_true (beg_wd (k := 7) (by decide) h3))
      clear h3
      go_enter Tryd.func27, Tryd.ntmps27
      go_wp2_with fail
      refine (rs_named _ rb A c n i L 0 fp lf RR.out HS.out).mono ?_
      rintro e w1 ⟨rfl, b1⟩
      rw [kd2, HN.out]
      replace RR := Lib.hid (RR.out.below b1)
      replace BB := Lib.hid (below_then BB.out b1)
      clear b1
      go_wp2_with fail
      refine (rs_is ⟨#[99, 97, 108, 108]⟩ _ rb A c n i L 0 fp lf RR.out (by decide)).mono ?_
      rintro e w2 ⟨rfl, b1⟩
      rw [kd1, decide_eq_false H0.out]
      replace RR := Lib.hid (RR.out.below b1)
      replace BB := Lib.hid (below_then BB.out b1)
      clear b1
      go_wp2_with fail
      refine (rs_is ⟨#[115, 112, 97, 119, 110]⟩ _ rb A c n i L 0 fp lf RR.out (by decide)).mono ?_
      rintro e w3 ⟨rfl, b1⟩
      rw [kd1, decide_eq_false H1.out]
      replace RR := Lib.hid (RR.out.below b1)
      replace BB := Lib.hid (below_then BB.out b1)
      clear b1
      go_wp2_with fail
      refine (rs_is ⟨#[108, 111, 99, 107]⟩ _ rb A c n i L 0 fp lf RR.out (by decide)).mono ?_
      rintro e w4 ⟨rfl, b1⟩
      rw [kd1, decide_eq_false H2.out]
      replace RR := Lib.hid (RR.out.below b1)
      replace BB := Lib.hid (below_then BB.out b1)
      clear b1
      go_wp2_with fail
      refine (rs_is ⟨#[117, 110, 108, 111, 99, 107]⟩ _ rb A c n i L 0 fp lf RR.out (by decide)).mono ?_
      rintro e w5 ⟨rfl, b1⟩
      rw [kd1, decide_eq_true H3.out]
      replace RR := Lib.hid (RR.out.below b1)
      replace BB := Lib.hid (below_then BB.out b1)
      clear b1
      go_wp2_with fail
      go_ret
      rw [F.out]
      exact ⟨rfl, BB.out⟩
    have H3 := Lib.hid h3
    clear h3
    by_cases h4 : tx L i = ⟨#[115, 107, 105, 112]⟩
    · have H4 := Lib.hid h4
      have F : Hid (decide (¬ wordOf L i = 0) = true) := Lib.hid (decide_eq_true (beg_wd (k := 8) (by decide) h4))
      clear h4
      go_enter Tryd.func27, Tryd.ntmps27
      go_wp2_with fail
      refine (rs_named _ rb A c n i L 0 fp lf RR.out HS.out).mono ?_
      rintro e w1 ⟨rfl, b1⟩
      rw [kd2, HN.out]
      replace RR := Lib.hid (RR.out.below b1)
      replace BB := Lib.hid (below_then BB.out b1)
      clear b1
      go_wp2_with fail
      refine (rs_is ⟨#[99, 97, 108, 108]⟩ _ rb A c n i L 0 fp lf RR.out (by decide)).mono ?_
      rintro e w2 ⟨rfl, b1⟩
      rw [kd1, decide_eq_false H0.out]
      replace RR := Lib.hid (RR.out.below b1)
      replace BB := Lib.hid (below_then BB.out b1)
      clear b1
      go_wp2_with fail
      refine (rs_is ⟨#[115, 112, 97, 119, 110]⟩ _ rb A c n i L 0 fp lf RR.out (by decide)).mono ?_
      rintro e w3 ⟨rfl, b1⟩
      rw [kd1, decide_eq_false H1.out]
      replace RR := Lib.hid (RR.out.below b1)
      replace BB := Lib.hid (below_then BB.out b1)
      clear b1
      go_wp2_with fail
      refine (rs_is ⟨#[108, 111, 99, 107]⟩ _ rb A c n i L 0 fp lf RR.out (by decide)).mono ?_
      rintro e w4 ⟨rfl, b1⟩
      rw [kd1, decide_eq_false H2.out]
      replace RR := Lib.hid (RR.out.below b1)
      replace BB := Lib.hid (below_then BB.out b1)
      clear b1
      go_wp2_with fail
      refine (rs_is ⟨#[117, 110, 108, 111, 99, 107]⟩ _ rb A c n i L 0 fp lf RR.out (by decide)).mono ?_
      rintro e w5 ⟨rfl, b1⟩
      rw [kd1, decide_eq_false H3.out]
      replace RR := Lib.hid (RR.out.below b1)
      replace BB := Lib.hid (below_then BB.out b1)
      clear b1
      go_wp2_with fail
      refine (rs_is ⟨#[115, 107, 105, 112]⟩ _ rb A c n i L 0 fp lf RR.out (by decide)).mono ?_
      rintro e w6 ⟨rfl, b1⟩
      rw [kd1, decide_eq_true H4.out]
      replace RR := Lib.hid (RR.out.below b1)
      replace BB := Lib.hid (below_then BB.out b1)
      clear b1
      go_wp2_with fail
      go_ret
      rw [F.out]
      exact ⟨rfl, BB.out⟩
    have H4 := Lib.hid h4
    clear h4
    by_cases h5 : tx L i = ⟨#[119, 104, 105, 108, 101]⟩
    · have H5 := Lib.hid h5
      have F : Hid (decide (¬ wordOf L i = 0) = true) := Lib.hid (decide_eq_true (beg_wd (k := 3) (by decide) h5))
      clear h5
      go_enter Tryd.func27, Tryd.ntmps27
      go_wp2_with fail
      refine (rs_named _ rb A c n i L 0 fp lf RR.out HS.out).mono ?_
      rintro e w1 ⟨rfl, b1⟩
      rw [kd2, HN.out]
      replace RR := Lib.hid (RR.out.below b1)
      replace BB := Lib.hid (below_then BB.out b1)
      clear b1
      go_wp2_with fail
      refine (rs_is ⟨#[99, 97, 108, 108]⟩ _ rb A c n i L 0 fp lf RR.out (by decide)).mono ?_
      rintro e w2 ⟨rfl, b1⟩
      rw [kd1, decide_eq_false H0.out]
      replace RR := Lib.hid (RR.out.below b1)
      replace BB := Lib.hid (below_then BB.out b1)
      clear b1
      go_wp2_with fail
      refine (rs_is ⟨#[115, 112, 97, 119, 110]⟩ _ rb A c n i L 0 fp lf RR.out (by decide)).mono ?_
      rintro e w3 ⟨rfl, b1⟩
      rw [kd1, decide_eq_false H1.out]
      replace RR := Lib.hid (RR.out.below b1)
      replace BB := Lib.hid (below_then BB.out b1)
      clear b1
      go_wp2_with fail
      refine (rs_is ⟨#[108, 111, 99, 107]⟩ _ rb A c n i L 0 fp lf RR.out (by decide)).mono ?_
      rintro e w4 ⟨rfl, b1⟩
      rw [kd1, decide_eq_false H2.out]
      replace RR := Lib.hid (RR.out.below b1)
      replace BB := Lib.hid (below_then BB.out b1)
      clear b1
      go_wp2_with fail
      refine (rs_is ⟨#[117, 110, 108, 111, 99, 107]⟩ _ rb A c n i L 0 fp lf RR.out (by decide)).mono ?_
      rintro e w5 ⟨rfl, b1⟩
      rw [kd1, decide_eq_false H3.out]
      replace RR := Lib.hid (RR.out.below b1)
      replace BB := Lib.hid (below_then BB.out b1)
      clear b1
      go_wp2_with fail
      refine (rs_is ⟨#[115, 107, 105, 112]⟩ _ rb A c n i L 0 fp lf RR.out (by decide)).mono ?_
      rintro e w6 ⟨rfl, b1⟩
      rw [kd1, decide_eq_false H4.out]
      replace RR := Lib.hid (RR.out.below b1)
      replace BB := Lib.hid (below_then BB.out b1)
      clear b1
      go_wp2_with fail
      refine (rs_is ⟨#[119, 104, 105, 108, 101]⟩ _ rb A c n i L 0 fp lf RR.out (by decide)).mono ?_
      rintro e w7 ⟨rfl, b1⟩
      rw [kd1, decide_eq_true H5.out]
      replace RR := Lib.hid (RR.out.below b1)
      replace BB := Lib.hid (below_then BB.out b1)
      clear b1
      go_wp2_with fail
      go_ret
      rw [F.out]
      exact ⟨rfl, BB.out⟩
    have H5 := Lib.hid h5
    clear h5
    by_cases h6 : tx L i = ⟨#[105, 102]⟩
    · have H6 := Lib.hid h6
      have F : Hid (decide (¬ wordOf L i = 0) = true) := Lib.hid (decide_eq_true (beg_wd (k := 2) (by decide) h6))
      clear h6
      go_enter Tryd.func27, Tryd.ntmps27
      go_wp2_with fail
      refine (rs_named _ rb A c n i L 0 fp lf RR.out HS.out).mono ?_
      rintro e w1 ⟨rfl, b1⟩
      rw [kd2, HN.out]
      replace RR := Lib.hid (RR.out.below b1)
      replace BB := Lib.hid (below_then BB.out b1)
      clear b1
      go_wp2_with fail
      refine (rs_is ⟨#[99, 97, 108, 108]⟩ _ rb A c n i L 0 fp lf RR.out (by decide)).mono ?_
      rintro e w2 ⟨rfl, b1⟩
      rw [kd1, decide_eq_false H0.out]
      replace RR := Lib.hid (RR.out.below b1)
      replace BB := Lib.hid (below_then BB.out b1)
      clear b1
      go_wp2_with fail
      refine (rs_is ⟨#[115, 112, 97, 119, 110]⟩ _ rb A c n i L 0 fp lf RR.out (by decide)).mono ?_
      rintro e w3 ⟨rfl, b1⟩
      rw [kd1, decide_eq_false H1.out]
      replace RR := Lib.hid (RR.out.below b1)
      replace BB := Lib.hid (below_then BB.out b1)
      clear b1
      go_wp2_with fail
      refine (rs_is ⟨#[108, 111, 99, 107]⟩ _ rb A c n i L 0 fp lf RR.out (by decide)).mono ?_
      rintro e w4 ⟨rfl, b1⟩
      rw [kd1, decide_eq_false H2.out]
      replace RR := Lib.hid (RR.out.below b1)
      replace BB := Lib.hid (below_then BB.out b1)
      clear b1
      go_wp2_with fail
      refine (rs_is ⟨#[117, 110, 108, 111, 99, 107]⟩ _ rb A c n i L 0 fp lf RR.out (by decide)).mono ?_
      rintro e w5 ⟨rfl, b1⟩
      rw [kd1, decide_eq_false H3.out]
      replace RR := Lib.hid (RR.out.below b1)
      replace BB := Lib.hid (below_then BB.out b1)
      clear b1
      go_wp2_with fail
      refine (rs_is ⟨#[115, 107, 105, 112]⟩ _ rb A c n i L 0 fp lf RR.out (by decide)).mono ?_
      rintro e w6 ⟨rfl, b1⟩
      rw [kd1, decide_eq_false H4.out]
      replace RR := Lib.hid (RR.out.below b1)
      replace BB := Lib.hid (below_then BB.out b1)
      clear b1
      go_wp2_with fail
      refine (rs_is ⟨#[119, 104, 105, 108, 101]⟩ _ rb A c n i L 0 fp lf RR.out (by decide)).mono ?_
      rintro e w7 ⟨rfl, b1⟩
      rw [kd1, decide_eq_false H5.out]
      replace RR := Lib.hid (RR.out.below b1)
      replace BB := Lib.hid (below_then BB.out b1)
      clear b1
      go_wp2_with fail
      refine (rs_is ⟨#[105, 102]⟩ _ rb A c n i L 0 fp lf RR.out (by decide)).mono ?_
      rintro e w8 ⟨rfl, b1⟩
      rw [kd1, decide_eq_true H6.out]
      replace RR := Lib.hid (RR.out.below b1)
      replace BB := Lib.hid (below_then BB.out b1)
      clear b1
      go_wp2_with fail
      go_ret
      rw [F.out]
      exact ⟨rfl, BB.out⟩
    have H6 := Lib.hid h6
    clear h6
    have F : Hid (decide (¬ wordOf L i = 0) = false) := Lib.hid (decide_eq_false (fun h => h (beg_no HN.out H0.out H1.out H2.out H3.out H4.out H5.out H6.out)))
    go_enter Tryd.func27, Tryd.ntmps27
    go_wp2_with fail
    refine (rs_named _ rb A c n i L 0 fp lf RR.out HS.out).mono ?_
    rintro e w1 ⟨rfl, b1⟩
    rw [kd2, HN.out]
    replace RR := Lib.hid (RR.out.below b1)
    replace BB := Lib.hid (below_then BB.out b1)
    clear b1
    go_wp2_with fail
    refine (rs_is ⟨#[99, 97, 108, 108]⟩ _ rb A c n i L 0 fp lf RR.out (by decide)).mono ?_
    rintro e w2 ⟨rfl, b1⟩
    rw [kd1, decide_eq_false H0.out]
    replace RR := Lib.hid (RR.out.below b1)
    replace BB := Lib.hid (below_then BB.out b1)
    clear b1
    go_wp2_with fail
    refine (rs_is ⟨#[115, 112, 97, 119, 110]⟩ _ rb A c n i L 0 fp lf RR.out (by decide)).mono ?_
    rintro e w3 ⟨rfl, b1⟩
    rw [kd1, decide_eq_false H1.out]
    replace RR := Lib.hid (RR.out.below b1)
    replace BB := Lib.hid (below_then BB.out b1)
    clear b1
    go_wp2_with fail
    refine (rs_is ⟨#[108, 111, 99, 107]⟩ _ rb A c n i L 0 fp lf RR.out (by decide)).mono ?_
    rintro e w4 ⟨rfl, b1⟩
    rw [kd1, decide_eq_false H2.out]
    replace RR := Lib.hid (RR.out.below b1)
    replace BB := Lib.hid (below_then BB.out b1)
    clear b1
    go_wp2_with fail
    refine (rs_is ⟨#[117, 110, 108, 111, 99, 107]⟩ _ rb A c n i L 0 fp lf RR.out (by decide)).mono ?_
    rintro e w5 ⟨rfl, b1⟩
    rw [kd1, decide_eq_false H3.out]
    replace RR := Lib.hid (RR.out.below b1)
    replace BB := Lib.hid (below_then BB.out b1)
    clear b1
    go_wp2_with fail
    refine (rs_is ⟨#[115, 107, 105, 112]⟩ _ rb A c n i L 0 fp lf RR.out (by decide)).mono ?_
    rintro e w6 ⟨rfl, b1⟩
    rw [kd1, decide_eq_false H4.out]
    replace RR := Lib.hid (RR.out.below b1)
    replace BB := Lib.hid (below_then BB.out b1)
    clear b1
    go_wp2_with fail
    refine (rs_is ⟨#[119, 104, 105, 108, 101]⟩ _ rb A c n i L 0 fp lf RR.out (by decide)).mono ?_
    rintro e w7 ⟨rfl, b1⟩
    rw [kd1, decide_eq_false H5.out]
    replace RR := Lib.hid (RR.out.below b1)
    replace BB := Lib.hid (below_then BB.out b1)
    clear b1
    go_wp2_with fail
    refine (rs_is ⟨#[105, 102]⟩ _ rb A c n i L 0 fp lf RR.out (by decide)).mono ?_
    rintro e w8 ⟨rfl, b1⟩
    rw [kd1, decide_eq_false H6.out]
    replace RR := Lib.hid (RR.out.below b1)
    replace BB := Lib.hid (below_then BB.out b1)
    clear b1
    go_wp2_with fail
    go_ret
    rw [F.out]
    exact ⟨rfl, BB.out⟩
end Go.Proofs.YtdanlgmpgdipnaaDoor
