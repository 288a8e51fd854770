/- The reference's reader: its making and its end. -/
import Derived.Test.YtefcdpkficojgaaDoorRsI
import Derived.Test.YtefcdpkficojgaaDoorRdTop
namespace Go.Proofs.YtefcdpkficojgaaDoor
open Go.RowKit
set_option linter.unusedVariables false

set_option maxHeartbeats 800000 in
set_option maxRecDepth 100000 in
theorem spec_l06New (s : ByteArray) (w : World) :
    Calls Tryd.prog 54 #[.string s] w fun e w' => ∃ rb A c, e = .returned (.pointer (some ⟨rb, 0, none⟩)) ∧ w.heap.size ≤ rb ∧ Below w.heap.size w w' ∧ w'.heap[rb]? = some (.cells #[.slice A (lexR s).1.length c, .int .i64 0, .int .i64 (s.size : Int), .int .i64 (lexR s).2.1, .int .i64 (lexR s).2.2, .int .i64 60] 85 (0, 0)) ∧ Rd w' 3 A (lexR s).1.length ((lexR s).1.flatMap sgF) ∧ (∀ b o, A = some ⟨b, o, none⟩ → b < rb) ∧ (lexR s).1.length ≤ c := by
  go_enter Tryd.func54, Tryd.ntmps54
  go_wp2_with fail
  refine (spec_Lex s _).mono ?_
  rintro e w1 ⟨v, rfl, own⟩
  obtain ⟨A, c, rfl, hc⟩ := Own.slice own
  have OW := Lib.hid own
  have hlt := fun g hg => (own.1.lt g hg).2
  have HLT : Hid (∀ b o, A = some ⟨b, o, none⟩ → b < w1.heap.size) := Lib.hid (fun b o e => by
    subst e
    exact hlt b rfl)
  clear own hlt
  obtain ⟨L, hL⟩ : ∃ L, (lexR s).1 = L := ⟨_, rfl⟩
  obtain ⟨fc, hfc⟩ : ∃ x, (lexR s).2.1 = x := ⟨_, rfl⟩
  obtain ⟨fp, hfp⟩ : ∃ x, (lexR s).2.2 = x := ⟨_, rfl⟩
  have HL := Lib.hid hL
  have HFC := Lib.hid hfc
  have HFP := Lib.hid hfp
  rw [hL] at OW hc ⊢
  rw [hfc, hfp]
  clear hL hfc hfp
  go_wp2_with fail
  go_ret
  rw [HL.out, HFC.out, HFP.out]
  refine ⟨_, A, c, rfl, ?_, ?_, ?_, ?_, ?_, hc⟩
  · have := OW.out.own.size; simp; omega
  · exact (OW.out.own.alloc OW.out.own.size _).alloc (by have := OW.out.own.size; simp; omega) _
  · have := heap_alloc_new (w1.alloc (.cells #[.int .i64 fc, .int .i64 fp] 26)) (.cells #[.slice A L.length c, .int .i64 0, .int .i64 (s.size : Int), .int .i64 fc, .int .i64 fp, .int .i64 60] 85)
    simpa using this
  · exact (Own.rd OW.out).below (Below.alloc (Below.alloc (Below.refl _ _) (Nat.le_refl _) _) (by simp) _)
  · intro b o e; have := HLT.out b o e; simp; omega
set_option maxHeartbeats 800000 in
set_option maxRecDepth 100000 in
theorem rs_end_at (w : World) (rb : Nat) (A : Option Addr) (c n i : Nat) (L : List Sg) (fp : Nat) (lf : Int) (h : RsAt w rb A c n i L 0 fp lf) :
    Calls Tryd.prog 56 #[.pointer (some ⟨rb, 0, none⟩)] w fun e w' => e = .returned (.tuple #[]) ∧ KeepR rb w w' ∧ ((i < L.length ∧ RsAt w' rb A c n i L 3 (posAt L n i) lf) ∨ (¬ i < L.length ∧ RsAt w' rb A c n i L 0 fp lf)) := by
  have RA := Lib.hid h
  clear h
  by_cases hd : i < L.length
  · have h1 : (i : Int) < (L.length : Int) := by omega
    go_enter Tryd.func56, Tryd.ntmps56
    go_upto_region 0 with fail
    refine wp_region_later (by kernel_rfl) (by kernel_rfl) ?_
    intro gw hgw hcw
    have HG := Lib.hid hgw
    have HC := Lib.hid hcw
    clear hgw hcw
    have P := Lib.hid (fun m => (RA.out.below (HG.out m)).cs)
    have p0 : ∀ m, (gw m).cell? ⟨rb, 0, none⟩ = some (.slice A L.length c) := fun m => (P.out m).1
    have p1 : ∀ m, (gw m).cell? ⟨rb, 1, none⟩ = some (.int .i64 (i : Int)) := fun m => (P.out m).2.1
    repeat (go_big_quiet_step (fail))
    refine wpQuiet_nil ?_
    intro _ hw'
    obtain ⟨nq, hw''⟩ := hw'
    subst hw''
    clear p0 p1
    rename Later _ => mm
    have R1 := Lib.hid (RA.out.below (HG.out mm))
    have K1 := Lib.hid (KeepR.of_below' (rb := rb) (HG.out mm))
    generalize gw mm = w1 at *
    go_wp2_with fail
    refine (rs_bad 3 _ rb A c n i L fp lf R1.out).mono ?_
    rintro e w2 ⟨rfl, r2, k2⟩
    have R2 := Lib.hid r2
    have K2 := Lib.hid (K1.out.trans' k2)
    clear r2 k2
    go_wp2_with fail
    refine bodyPost_end (results_none rfl _ _ _) rfl ?_
    exact ⟨rfl, K2.out, .inl ⟨hd, R2.out⟩⟩
  · have h1 : ¬ (i : Int) < (L.length : Int) := by omega
    go_enter Tryd.func56, Tryd.ntmps56
    go_upto_region 0 with fail
    refine wp_region_later (by kernel_rfl) (by kernel_rfl) ?_
    intro gw hgw hcw
    have HG := Lib.hid hgw
    have HC := Lib.hid hcw
    clear hgw hcw
    have P := Lib.hid (fun m => (RA.out.below (HG.out m)).cs)
    have p0 : ∀ m, (gw m).cell? ⟨rb, 0, none⟩ = some (.slice A L.length c) := fun m => (P.out m).1
    have p1 : ∀ m, (gw m).cell? ⟨rb, 1, none⟩ = some (.int .i64 (i : Int)) := fun m => (P.out m).2.1
    repeat (go_big_quiet_step (fail))
    refine wpQuiet_nil ?_
    intro _ hw'
    obtain ⟨nq, hw''⟩ := hw'
    subst hw''
    clear p0 p1
    go_wp2_with fail
    refine bodyPost_end (results_none rfl _ _ _) rfl ?_
    first | exact ⟨rfl, KeepR.of_below' (HG.out _), .inr ⟨hd, RA.out.below (HG.out _)⟩⟩ | exact ⟨rfl, KeepR.of_below' (HG.out _), RA.out.below (HG.out _)⟩
set_option maxHeartbeats 800000 in
set_option maxRecDepth 100000 in
theorem rs_end_fault (w : World) (rb : Nat) (A : Option Addr) (c n i : Nat) (L : List Sg) (fc : Int) (fp : Nat) (lf : Int) (h : RsAt w rb A c n i L fc fp lf) (hf : ¬ fc = 0) :
    Calls Tryd.prog 56 #[.pointer (some ⟨rb, 0, none⟩)] w fun e w' => e = .returned (.tuple #[]) ∧ Below w.heap.size w w' := by
  have RA := Lib.hid h
  have HF := Lib.hid hf
  clear h hf
  by_cases hd : i < L.length
  · have h1 : (i : Int) < (L.length : Int) := by omega
    go_enter Tryd.func56, Tryd.ntmps56
    go_upto_region 0 with fail
    refine wp_region_later (by kernel_rfl) (by kernel_rfl) ?_
    intro gw hgw hcw
    have HG := Lib.hid hgw
    have HC := Lib.hid hcw
    clear hgw hcw
    have P := Lib.hid (fun m => (RA.out.below (HG.out m)).cs)
    have p0 : ∀ m, (gw m).cell? ⟨rb, 0, none⟩ = some (.slice A L.length c) := fun m => (P.out m).1
    have p1 : ∀ m, (gw m).cell? ⟨rb, 1, none⟩ = some (.int .i64 (i : Int)) := fun m => (P.out m).2.1
    repeat (go_big_quiet_step (fail))
    refine wpQuiet_nil ?_
    intro _ hw'
    obtain ⟨nq, hw''⟩ := hw'
    subst hw''
    clear p0 p1
    rename Later _ => mm
    have R1 := Lib.hid (RA.out.below (HG.out mm))
    have B1 := Lib.hid (HG.out mm)
    generalize gw mm = w1 at *
    go_wp2_with fail
    refine (rs_bad2 3 _ rb A c n i L fc fp lf R1.out HF.out).mono ?_
    rintro e w2 ⟨rfl, rfl⟩
    go_wp2_with fail
    refine bodyPost_end (results_none rfl _ _ _) rfl ?_
    exact ⟨rfl, B1.out⟩
  · have h1 : ¬ (i : Int) < (L.length : Int) := by omega
    go_enter Tryd.func56, Tryd.ntmps56
    go_upto_region 0 with fail
    refine wp_region_later (by kernel_rfl) (by kernel_rfl) ?_
    intro gw hgw hcw
    have HG := Lib.hid hgw
    have HC := Lib.hid hcw
    clear hgw hcw
    have P := Lib.hid (fun m => (RA.out.below (HG.out m)).cs)
    have p0 : ∀ m, (gw m).cell? ⟨rb, 0, none⟩ = some (.slice A L.length c) := fun m => (P.out m).1
    have p1 : ∀ m, (gw m).cell? ⟨rb, 1, none⟩ = some (.int .i64 (i : Int)) := fun m => (P.out m).2.1
    repeat (go_big_quiet_step (fail))
    refine wpQuiet_nil ?_
    intro _ hw'
    obtain ⟨nq, hw''⟩ := hw'
    subst hw''
    clear p0 p1
    go_wp2_with fail
    refine bodyPost_end (results_none rfl _ _ _) rfl ?_
    exact ⟨rfl, HG.out _⟩
end Go.Proofs.YtefcdpkficojgaaDoor
