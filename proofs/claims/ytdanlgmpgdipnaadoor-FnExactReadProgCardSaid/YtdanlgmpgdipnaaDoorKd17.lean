/- Several texts in one: RsI. -/
import Derived.Test.YtdanlgmpgdipnaaDoorKd16
import Derived.Test.YtdanlgmpgdipnaaDoorKd12
namespace Go.Proofs.YtdanlgmpgdipnaaDoor
open Go.RowKit
set_option linter.unusedVariables false


/-- the reference's reader in block rb -/
structure RsAt (w : World) (rb : Nat) (A : Option Addr) (c n i : Nat) (L : List Sg) (fc : Int) (fp : Nat) (lf : Int) : Prop where
  cells : w.heap[rb]? = some (.cells #[.slice A L.length c, .int .i64 (i : Int), .int .i64 (n : Int), .int .i64 fc, .int .i64 (fp : Int), .int .i64 lf] 39 (0, 0))
  rd : Rd w 3 A L.length (L.flatMap sgF)
  off : ∀ b o, A = some ⟨b, o, none⟩ → b ≠ rb
  hi : i ≤ 6000
  hL : L.length ≤ 6000
  hc : L.length ≤ c
section
variable {w : World} {rb : Nat} {A : Option Addr} {c n i : Nat} {L : List Sg} {fc : Int} {fp : Nat} {lf : Int}
theorem RsAt.lt (h : RsAt w rb A c n i L fc fp lf) : rb < w.heap.size := lt_of_block h.cells
theorem RsAt.below {w' : World} (h : RsAt w rb A c n i L fc fp lf) (hb : Below w.heap.size w w') : RsAt w' rb A c n i L fc fp lf :=
  ⟨(hb.block rb h.lt).trans h.cells, h.rd.below hb, h.off, h.hi, h.hL, h.hc⟩
theorem RsAt.cs (h : RsAt w rb A c n i L fc fp lf) : w.cell? ⟨rb, 0, none⟩ = some (.slice A L.length c) ∧ w.cell? ⟨rb, 1, none⟩ = some (.int .i64 (i : Int)) ∧ w.cell? ⟨rb, 2, none⟩ = some (.int .i64 (n : Int)) ∧ w.cell? ⟨rb, 3, none⟩ = some (.int .i64 fc) ∧ w.cell? ⟨rb, 4, none⟩ = some (.int .i64 (fp : Int)) ∧ w.cell? ⟨rb, 5, none⟩ = some (.int .i64 lf) := by
  have hh := h.cells
  refine ⟨?_, ?_, ?_, ?_, ?_, ?_⟩ <;> simp [World.cell?, hh]
theorem RsAt.fz (h : RsAt w rb A c n i L fc fp lf) (j : Nat) : w.frozen? ⟨rb, j, none⟩ = false := by
  have hh := h.cells
  simp [World.frozen?, hh]
theorem RsAt.seti (h : RsAt w rb A c n i L fc fp lf) (hi : i + 1 ≤ 6000) : RsAt (w.setCell ⟨rb, 1, none⟩ (.int .i64 ((i : Int) + 1))) rb A c n (i + 1) L fc fp lf :=
  ⟨by have hh := h.cells; have e : ((i + 1 : Nat) : Int) = (i : Int) + 1 := (by omega); rw [e]; simp [World.setCell, Array.getElem?_modify, hh], rd_set h.rd h.off, h.off, hi, h.hL, h.hc⟩
theorem RsAt.setf (h : RsAt w rb A c n i L fc fp lf) (fc' : Int) (fp' : Nat) : RsAt ((w.setCell ⟨rb, 3, none⟩ (.int .i64 fc')).setCell ⟨rb, 4, none⟩ (.int .i64 (fp' : Int))) rb A c n i L fc' fp' lf :=
  ⟨by have hh := h.cells; simp [World.setCell, Array.getElem?_modify, hh], rd_set (rd_set h.rd h.off) h.off, h.off, h.hi, h.hL, h.hc⟩
theorem RsAt.setp (h : RsAt w rb A c n i L fc fp lf) (fp' : Nat) : RsAt (w.setCell ⟨rb, 4, none⟩ (.int .i64 (fp' : Int))) rb A c n i L fc fp' lf :=
  ⟨by have hh := h.cells; simp [World.setCell, Array.getElem?_modify, hh], rd_set h.rd h.off, h.off, h.hi, h.hL, h.hc⟩
end
set_option maxHeartbeats 1600000 in
set_option maxRecDepth 100000 in
/-- a fault where there is none yet -/
theorem rs_bad (code : Int) (w : World) (rb : Nat) (A : Option Addr) (c n i : Nat) (L : List Sg) (fp : Nat) (lf : Int) (h : RsAt w rb A c n i L 0 fp lf) :
    Calls Tryd.prog 13 #[.pointer (some ⟨rb, 0, none⟩), .int .i64 code] w fun e w' => e = .returned (.tuple #[]) ∧ RsAt w' rb A c n i L code (posAt L n i) lf ∧ KeepR rb w w' := by
  have RA := Lib.hid h
  have hL := h.hL
  have hi := h.hi
  have hc := h.hc
  clear h
  obtain ⟨p0, p1, p2, p3, p4, _⟩ := RA.out.cs
  have f3 := RA.out.fz 3
  have f4 := RA.out.fz 4
  have R1 := Lib.hid (RA.out.setf code n)
  have K1 : Hid (KeepR rb w ((w.setCell ⟨rb, 3, none⟩ (.int .i64 code)).setCell ⟨rb, 4, none⟩ (.int .i64 (n : Int)))) := Lib.hid (((Keep.refl _ _).setCell (p := ⟨rb, 3, none⟩) (by simp) _).setCell (p := ⟨rb, 4, none⟩) (by simp) _)
  by_cases hd : i < L.length
  · have h0 : (0 : Int) ≤ (i : Int) := by omega
    have h1 : (i : Int) < (L.length : Int) := by omega
    have HP := Lib.hid (posAt_lt (n := n) hd)
    obtain ⟨b, off, rfl, _, _, e2⟩ := rd_sg R1.out.rd hd
    have hne := RA.out.off b off rfl
    have hn1 : ¬ b = rb := hne
    have hn2 : ¬ rb = b := fun e => hne e.symm
    generalize hx : L[i] = x at *
    obtain ⟨xk, xt, xp⟩ := x
    simp only at e2 HP
    have E2 := Lib.hid e2
    clear hx e2
    go_enter Tryd.func13, Tryd.ntmps13
    go_upto_region 2 with fail
    obtain ⟨w1, hw1⟩ : ∃ w1, (w.setCell ⟨rb, 3, none⟩ (.int .i64 code)).setCell ⟨rb, 4, none⟩ (.int .i64 (n : Int)) = w1 := ⟨_, rfl⟩
    rw [hw1] at R1 K1 E2 ⊢
    clear hw1 p0 p1 p2 p3 p4 f3 f4
    refine wp_region_later (by kernel_rfl) (by kernel_rfl) ?_
    intro gw hgw hcw
    have HG := Lib.hid hgw
    have HC := Lib.hid hcw
    clear hgw hcw
    have P := Lib.hid (fun m => (R1.out.below (HG.out m)).cs)
    have p0 : ∀ m, (gw m).cell? ⟨rb, 0, none⟩ = some (.slice (some ⟨b, off, none⟩) L.length c) := fun m => (P.out m).1
    have p1 : ∀ m, (gw m).cell? ⟨rb, 1, none⟩ = some (.int .i64 (i : Int)) := fun m => (P.out m).2.1
    repeat (go_big_quiet_step (fail))
    refine wpQuiet_nil ?_
    intro _ hw'
    obtain ⟨nq, hw''⟩ := hw'
    subst hw''
    clear p0 p1
    rename Later _ => mm
    have R2 := Lib.hid (R1.out.below (HG.out mm))
    have K2 := Lib.hid (K1.out.trans' (KeepR.of_below' (HG.out mm)))
    have e2 := cell_keep (HG.out mm) E2.out
    obtain ⟨q0, q1, _, _, _, _⟩ := R2.out.cs
    have g4 := R2.out.fz 4
    have hrb := R2.out.lt
    generalize gw mm = w2 at *
    go_upto_region 3 with fail
    go_region_held3 (fun w' => w'.cell? ⟨rb, 0, none⟩ = some (.slice (some ⟨b, off, none⟩) L.length c) ∧ w'.cell? ⟨rb, 1, none⟩ = some (.int .i64 (i : Int)) ∧ w'.cell? ⟨b, off + i * 3 + 2, none⟩ = some (.int .i64 (xp : Int)) ∧ w'.frozen? ⟨rb, 4, none⟩ = false)
      (first | (refine ⟨?_, ?_, ?_, ?_⟩ <;> first | (with_reducible assumption) | (simp [World.cell?_setCell_other, hn1, q0, q1, e2, g4]; done)) | go_keep)
      (first | fail)
    have R3 : Hid (RsAt (w2.setCell ⟨rb, 4, none⟩ (.int .i64 (xp : Int))).drew rb (some ⟨b, off, none⟩) c n i L code xp lf) := Lib.hid ((R2.out.setp xp).below (Below.refl _ _).drew)
    have K3 : Hid (KeepR rb w (w2.setCell ⟨rb, 4, none⟩ (.int .i64 (xp : Int))).drew) := Lib.hid (KeepR.trans' (K2.out.setCell (p := ⟨rb, 4, none⟩) (by simp) _) (KeepR.of_below' (Below.refl _ _).drew))
    go_wp2_with fail
    refine bodyPost_end (results_none rfl _ _ _) rfl ?_
    exact ⟨rfl, by rw [HP.out]; exact R3.out, K3.out⟩
  · have h1 : ¬ (i : Int) < (L.length : Int) := by omega
    have HP := Lib.hid (posAt_ge (n := n) hd)
    go_enter Tryd.func13, Tryd.ntmps13
    go_upto_region 2 with fail
    obtain ⟨w1, hw1⟩ : ∃ w1, (w.setCell ⟨rb, 3, none⟩ (.int .i64 code)).setCell ⟨rb, 4, none⟩ (.int .i64 (n : Int)) = w1 := ⟨_, rfl⟩
    rw [hw1] at R1 K1 ⊢
    clear hw1 p0 p1 p2 p3 p4 f3 f4
    refine wp_region_later (by kernel_rfl) (by kernel_rfl) ?_
    intro gw hgw hcw
    have HG := Lib.hid hgw
    have HC := Lib.hid hcw
    clear hgw hcw
    have P := Lib.hid (fun m => (R1.out.below (HG.out m)).cs)
    have p0 : ∀ m, (gw m).cell? ⟨rb, 0, none⟩ = some (.slice A L.length c) := fun m => (P.out m).1
    have p1 : ∀ m, (gw m).cell? ⟨rb, 1, none⟩ = some (.int .i64 (i : Int)) := fun m => (P.out m).2.1
    repeat (go_big_quiet_step (fail))
    refine wpQuiet_nil ?_
    intro _ hw'
    obtain ⟨nq, hw''⟩ := hw'
    subst hw''
    clear p0 p1
    go_wp2_with fail
    refine bodyPost_end (results_none rfl _ _ _) rfl ?_
    exact ⟨rfl, by rw [HP.out]; exact R1.out.below (HG.out _), K1.out.trans' (KeepR.of_below' (HG.out _))⟩
set_option maxHeartbeats 800000 in
set_option maxRecDepth 100000 in
/-- the first fault stays -/
theorem rs_bad2 (code : Int) (w : World) (rb : Nat) (A : Option Addr) (c n i : Nat) (L : List Sg) (fc : Int) (fp : Nat) (lf : Int) (h : RsAt w rb A c n i L fc fp lf) (hf : ¬ fc = 0) :
    Calls Tryd.prog 13 #[.pointer (some ⟨rb, 0, none⟩), .int .i64 code] w fun e w' => e = .returned (.tuple #[]) ∧ w = w' := by
  obtain ⟨p0, p1, p2, p3, p4, _⟩ := h.cs
  have hfb : (fc != 0) = true := by rw [bne_iff_ne]; exact hf
  have hfb2 : (fc == 0) = false := beq_eq_false_iff_ne.2 hf
  clear h hf
  go_enter Tryd.func13, Tryd.ntmps13
  go_wp2_with fail
  refine bodyPost_ret (v := .tuple #[]) (by simp [results, Tryd.results13, go_sem]) rfl ?_
  exact ⟨rfl, rfl⟩
/-- does the next sign read so -/
theorem rs_is_fault (s : ByteArray) (w : World) (rb : Nat) (A : Option Addr) (c n i : Nat) (L : List Sg) (fc : Int) (fp : Nat) (lf : Int) (h : RsAt w rb A c n i L fc fp lf) (hf : ¬ fc = 0) : Calls Tryd.prog 12 #[.pointer (some ⟨rb, 0, none⟩), .string s] w fun e w' => e = .returned (.bool false) ∧ Below w.heap.size w w' := by
  have RA := Lib.hid h
  have hfb : (fc == 0) = false := beq_eq_false_iff_ne.2 hf
  clear h hf
  go_enter Tryd.func12, Tryd.ntmps12
  go_upto_region 1 with fail
  refine wp_region_later (by kernel_rfl) (by kernel_rfl) ?_
  intro gw hgw hcw
  have HG := Lib.hid hgw
  have HC := Lib.hid hcw
  clear hgw hcw
  have P := Lib.hid (fun m => (RA.out.below (HG.out m)).cs)
  have p0 : ∀ m, (gw m).cell? ⟨rb, 0, none⟩ = some (.slice A L.length c) := fun m => (P.out m).1
  have p1 : ∀ m, (gw m).cell? ⟨rb, 1, none⟩ = some (.int .i64 (i : Int)) := fun m => (P.out m).2.1
  have p3 : ∀ m, (gw m).cell? ⟨rb, 3, none⟩ = some (.int .i64 fc) := fun m => (P.out m).2.2.2.1
  repeat (go_big_quiet_step (fail))
  refine wpQuiet_nil ?_
  intro _ hw'
  obtain ⟨nq, hw''⟩ := hw'
  subst hw''
  go_wp2_with fail
  go_ret
  exact ⟨rfl, HG.out _⟩
set_option maxHeartbeats 800000 in
set_option maxRecDepth 100000 in
theorem rs_is_end (s : ByteArray) (w : World) (rb : Nat) (A : Option Addr) (c n i : Nat) (L : List Sg) (fc : Int) (fp : Nat) (lf : Int) (h : RsAt w rb A c n i L fc fp lf) (hf : fc = 0) (hd : ¬ i < L.length) : Calls Tryd.prog 12 #[.pointer (some ⟨rb, 0, none⟩), .string s] w fun e w' => e = .returned (.bool false) ∧ Below w.heap.size w w' := by
  have RA := Lib.hid h
  have hfb : (fc == 0) = true := beq_iff_eq.2 hf
  have hdi : ¬ (i : Int) < (L.length : Int) := by omega
  clear h hf
  go_enter Tryd.func12, Tryd.ntmps12
  go_upto_region 1 with fail
  refine wp_region_later (by kernel_rfl) (by kernel_rfl) ?_
  intro gw hgw hcw
  have HG := Lib.hid hgw
  have HC := Lib.hid hcw
  clear hgw hcw
  have P := Lib.hid (fun m => (RA.out.below (HG.out m)).cs)
  have p0 : ∀ m, (gw m).cell? ⟨rb, 0, none⟩ = some (.slice A L.length c) := fun m => (P.out m).1
  have p1 : ∀ m, (gw m).cell? ⟨rb, 1, none⟩ = some (.int .i64 (i : Int)) := fun m => (P.out m).2.1
  have p3 : ∀ m, (gw m).cell? ⟨rb, 3, none⟩ = some (.int .i64 fc) := fun m => (P.out m).2.2.2.1
  repeat (go_big_quiet_step (fail))
  refine wpQuiet_nil ?_
  intro _ hw'
  obtain ⟨nq, hw''⟩ := hw'
  subst hw''
  go_wp2_with fail
  go_ret
  exact ⟨rfl, HG.out _⟩
set_option maxHeartbeats 1600000 in
set_option maxRecDepth 100000 in
theorem rs_is_at (s : ByteArray) (w : World) (rb : Nat) (A : Option Addr) (c n i : Nat) (L : List Sg) (fc : Int) (fp : Nat) (lf : Int) (h : RsAt w rb A c n i L fc fp lf) (hf : fc = 0) (hd : i < L.length) (r : Bool) (hr : (L[i].t.toList == s.toList) = r) : Calls Tryd.prog 12 #[.pointer (some ⟨rb, 0, none⟩), .string s] w fun e w' => e = .returned (.bool r) ∧ Below w.heap.size w w' := by
  have RA := Lib.hid h
  have hfb : (fc == 0) = true := beq_iff_eq.2 hf
  have hdi : (i : Int) < (L.length : Int) := by omega
  have h0i : (0 : Int) ≤ (i : Int) := by omega
  have hLL := h.hL
  have hcc := h.hc
  clear h hf
  obtain ⟨b, off, rfl, e0, e1, e2⟩ := rd_sg RA.out.rd hd
  obtain ⟨x, hx⟩ : ∃ x, L[i] = x := ⟨_, rfl⟩
  have HX := Lib.hid hx
  rw [hx] at e0 e1 e2
  obtain ⟨xk, xt, xp⟩ := x
  simp only at e0 e1 e2
  have E0 := Lib.hid e0
  have E1 := Lib.hid e1
  clear hx e0 e1 e2
  rw [HX.out] at hr
  simp only at hr
  cases r
  all_goals
    go_enter Tryd.func12, Tryd.ntmps12
    go_upto_region 1 with fail
    refine wp_region_later (by kernel_rfl) (by kernel_rfl) ?_
    intro gw hgw hcw
    have HG := Lib.hid hgw
    have HC := Lib.hid hcw
    clear hgw hcw
    have P := Lib.hid (fun m => (RA.out.below (HG.out m)).cs)
    have p0 : ∀ m, (gw m).cell? ⟨rb, 0, none⟩ = some (.slice (some ⟨b, off, none⟩) L.length c) := fun m => (P.out m).1
    have p1 : ∀ m, (gw m).cell? ⟨rb, 1, none⟩ = some (.int .i64 (i : Int)) := fun m => (P.out m).2.1
    have p3 : ∀ m, (gw m).cell? ⟨rb, 3, none⟩ = some (.int .i64 fc) := fun m => (P.out m).2.2.2.1
    have s0 : ∀ m, (gw m).cell? ⟨b, off + i * 3, none⟩ = some (.int .i64 xk) := fun m => cell_keep (HG.out m) E0.out
    have s1 : ∀ m, (gw m).cell? ⟨b, off + i * 3 + 1, none⟩ = some (.string xt) := fun m => cell_keep (HG.out m) E1.out
    repeat (go_big_quiet_step (fail))
    refine wpQuiet_nil ?_
    intro _ hw'
    obtain ⟨nq, hw''⟩ := hw'
    subst hw''
    go_wp2_with fail
    go_ret
    exact ⟨rfl, HG.out _⟩
theorem rs_is (s : ByteArray) (w : World) (rb : Nat) (A : Option Addr) (c n i : Nat) (L : List Sg) (fc : Int) (fp : Nat) (lf : Int) (h : RsAt w rb A c n i L fc fp lf) (h0 : s ≠ ⟨#[]⟩) : Calls Tryd.prog 12 #[.pointer (some ⟨rb, 0, none⟩), .string s] w fun e w' => e = .returned (.bool (decide (fc = 0) && decide (tx L i = s))) ∧ Below w.heap.size w w' := by
  by_cases hf : fc = 0
  · by_cases hd : i < L.length
    · have := rs_is_at s w rb A c n i L fc fp lf h hf hd _ rfl
      rw [decide_eq_true hf, Bool.true_and, tx_lt hd]
      have e : (L[i].t.toList == s.toList) = decide (L[i].t = s) := str_eq L[i].t s
      rwa [e] at this
    · have := rs_is_end s w rb A c n i L fc fp lf h hf hd
      rw [decide_eq_true hf, Bool.true_and, tx_ge hd, decide_eq_false (fun e => h0 e.symm)]
      exact this
  · have := rs_is_fault s w rb A c n i L fc fp lf h hf
    rw [decide_eq_false hf, Bool.false_and]
    exact this
set_option maxHeartbeats 800000 in
set_option maxRecDepth 100000 in
/-- l06Take, and what is left of it behind a fault -/
theorem rs_take (s : ByteArray) (w : World) (rb : Nat) (A : Option Addr) (c n i : Nat) (L : List Sg) (fp : Nat) (lf : Int) (h : RsAt w rb A c n i L 0 fp lf) (h0 : s ≠ ⟨#[]⟩) :
    Calls Tryd.prog 14 #[.pointer (some ⟨rb, 0, none⟩), .string s] w fun e w' => e = .returned (.tuple #[]) ∧ KeepR rb w w' ∧ ((tx L i = s ∧ RsAt w' rb A c n (i + 1) L 0 fp lf) ∨ (¬ tx L i = s ∧ RsAt w' rb A c n i L 3 (posAt L n i) lf)) := by
  have RA := Lib.hid h
  have hL := h.hL
  clear h
  by_cases hd : tx L i = s
  · have hlt : i < L.length := there_of (by rw [hd]; exact h0)
    go_enter Tryd.func14, Tryd.ntmps14
    go_wp2_with fail
    refine (rs_is s _ rb A c n i L 0 fp lf RA.out h0).mono ?_
    rintro e w1 ⟨rfl, b1⟩
    rw [show (decide ((0 : Int) = 0) && decide (tx L i = s)) = true from by rw [decide_eq_true hd]; rfl]
    have R1 := Lib.hid (RA.out.below b1)
    have K1 := Lib.hid (KeepR.of_below' (rb := rb) b1)
    obtain ⟨_, q1, _⟩ := R1.out.cs
    have g1 := R1.out.fz 1
    have hrb := R1.out.lt
    clear b1
    go_wp2_with fail
    refine bodyPost_end (results_none rfl _ _ _) rfl ?_
    exact ⟨rfl, K1.out.setCell (p := ⟨rb, 1, none⟩) (by simp) _, .inl ⟨hd, R1.out.seti (by omega)⟩⟩
  · go_enter Tryd.func14, Tryd.ntmps14
    go_wp2_with fail
    refine (rs_is s _ rb A c n i L 0 fp lf RA.out h0).mono ?_
    rintro e w1 ⟨rfl, b1⟩
    rw [show (decide ((0 : Int) = 0) && decide (tx L i = s)) = false from by rw [decide_eq_false hd]; rfl]
    have R1 := Lib.hid (RA.out.below b1)
    have K1 := Lib.hid (KeepR.of_below' (rb := rb) b1)
    clear b1
    go_wp2_with fail
    refine (rs_bad 3 _ rb A c n i L fp lf R1.out).mono ?_
    rintro e w2 ⟨rfl, r2, k2⟩
    have R2 := Lib.hid r2
    have K2 := Lib.hid (K1.out.trans' k2)
    clear r2 k2
    go_wp2_with fail
    refine bodyPost_ret (v := .tuple #[]) (by simp [results, Tryd.results14, go_sem]) rfl ?_
    exact ⟨rfl, K2.out, .inr ⟨hd, R2.out⟩⟩
set_option maxHeartbeats 800000 in
set_option maxRecDepth 100000 in
theorem rs_take2 (s : ByteArray) (w : World) (rb : Nat) (A : Option Addr) (c n i : Nat) (L : List Sg) (fc : Int) (fp : Nat) (lf : Int) (h : RsAt w rb A c n i L fc fp lf) (h0 : s ≠ ⟨#[]⟩) (hf : ¬ fc = 0) :
    Calls Tryd.prog 14 #[.pointer (some ⟨rb, 0, none⟩), .string s] w fun e w' => e = .returned (.tuple #[]) ∧ Below w.heap.size w w' := by
  have RA := Lib.hid h
  have HR : Hid ((decide (fc = 0) && decide (tx L i = s)) = false) := Lib.hid (by rw [decide_eq_false hf]; rfl)
  clear h
  go_enter Tryd.func14, Tryd.ntmps14
  go_wp2_with fail
  refine (rs_is s _ rb A c n i L fc fp lf RA.out h0).mono ?_
  rintro e w1 ⟨rfl, b1⟩
  rw [HR.out]
  have R1 := Lib.hid (RA.out.below b1)
  have B1 := Lib.hid b1
  clear b1
  go_wp2_with fail
  refine (rs_bad2 3 _ rb A c n i L fc fp lf R1.out hf).mono ?_
  rintro e w2 ⟨rfl, rfl⟩
  go_wp2_with fail
  refine bodyPost_ret (v := .tuple #[]) (by simp [results, Tryd.results14, go_sem]) rfl ?_
  exact ⟨rfl, B1.out⟩
/-- the signs that read as names are names -/
def SgsOk (L : List Sg) : Prop := ∀ g ∈ L, isNameL g.t.data.toList = true → g.k = 1
theorem SgsOk.at {L : List Sg} (h : SgsOk L) {i : Nat} (hn : nmB L i = true) : (sgAt L i).k = 1 := by
  have hi := there_n hn
  rw [sgAt_lt hi]
  refine h _ (List.getElem_mem hi) ?_
  unfold nmB at hn
  rwa [tx_lt hi] at hn
set_option maxHeartbeats 800000 in
set_option maxRecDepth 100000 in
theorem rs_named_fault (w : World) (rb : Nat) (A : Option Addr) (c n i : Nat) (L : List Sg) (fc : Int) (fp : Nat) (lf : Int) (h : RsAt w rb A c n i L fc fp lf) (hf : ¬ fc = 0) : Calls Tryd.prog 26 #[.pointer (some ⟨rb, 0, none⟩)] w fun e w' => e = .returned (.bool false) ∧ Below w.heap.size w w' := by
  have RA := Lib.hid h
  have hfb : (fc == 0) = false := beq_eq_false_iff_ne.2 hf
  clear h hf
  go_enter Tryd.func26, Tryd.ntmps26
  go_upto_region 1 with fail
  refine wp_region_later (by kernel_rfl) (by kernel_rfl) ?_
  intro gw hgw hcw
  have HG := Lib.hid hgw
  have HC := Lib.hid hcw
  clear hgw hcw
  have P := Lib.hid (fun m => (RA.out.below (HG.out m)).cs)
  have p0 : ∀ m, (gw m).cell? ⟨rb, 0, none⟩ = some (.slice A L.length c) := fun m => (P.out m).1
  have p1 : ∀ m, (gw m).cell? ⟨rb, 1, none⟩ = some (.int .i64 (i : Int)) := fun m => (P.out m).2.1
  have p3 : ∀ m, (gw m).cell? ⟨rb, 3, none⟩ = some (.int .i64 fc) := fun m => (P.out m).2.2.2.1
  repeat (go_big_quiet_step (fail))
  refine wpQuiet_nil ?_
  intro _ hw'
  obtain ⟨nq, hw''⟩ := hw'
  subst hw''
  go_wp2_with fail
  go_ret
  exact ⟨rfl, HG.out _⟩
set_option maxHeartbeats 800000 in
set_option maxRecDepth 100000 in
theorem rs_named_end (w : World) (rb : Nat) (A : Option Addr) (c n i : Nat) (L : List Sg) (fc : Int) (fp : Nat) (lf : Int) (h : RsAt w rb A c n i L fc fp lf) (hf : fc = 0) (hd : ¬ i < L.length) : Calls Tryd.prog 26 #[.pointer (some ⟨rb, 0, none⟩)] w fun e w' => e = .returned (.bool false) ∧ Below w.heap.size w w' := by
  have RA := Lib.hid h
  have hfb : (fc == 0) = true := beq_iff_eq.2 hf
  have hdi : ¬ (i : Int) < (L.length : Int) := by omega
  clear h hf
  go_enter Tryd.func26, Tryd.ntmps26
  go_upto_region 1 with fail
  refine wp_region_later (by kernel_rfl) (by kernel_rfl) ?_
  intro gw hgw hcw
  have HG := Lib.hid hgw
  have HC := Lib.hid hcw
  clear hgw hcw
  have P := Lib.hid (fun m => (RA.out.below (HG.out m)).cs)
  have p0 : ∀ m, (gw m).cell? ⟨rb, 0, none⟩ = some (.slice A L.length c) := fun m => (P.out m).1
  have p1 : ∀ m, (gw m).cell? ⟨rb, 1, none⟩ = some (.int .i64 (i : Int)) := fun m => (P.out m).2.1
  have p3 : ∀ m, (gw m).cell? ⟨rb, 3, none⟩ = some (.int .i64 fc) := fun m => (P.out m).2.2.2.1
  repeat (go_big_quiet_step (fail))
  refine wpQuiet_nil ?_
  intro _ hw'
  obtain ⟨nq, hw''⟩ := hw'
  subst hw''
  go_wp2_with fail
  go_ret
  exact ⟨rfl, HG.out _⟩
set_option maxHeartbeats 1600000 in
set_option maxRecDepth 100000 in
theorem rs_named_other (w : World) (rb : Nat) (A : Option Addr) (c n i : Nat) (L : List Sg) (fc : Int) (fp : Nat) (lf : Int) (h : RsAt w rb A c n i L fc fp lf) (hf : fc = 0) (hd : i < L.length) (hk : ¬ L[i].k = 1) : Calls Tryd.prog 26 #[.pointer (some ⟨rb, 0, none⟩)] w fun e w' => e = .returned (.bool false) ∧ Below w.heap.size w w' := by
  have RA := Lib.hid h
  have hfb : (fc == 0) = true := beq_iff_eq.2 hf
  have hdi : (i : Int) < (L.length : Int) := by omega
  have h0i : (0 : Int) ≤ (i : Int) := by omega
  have hLL := h.hL
  have hcc := h.hc
  clear h hf
  obtain ⟨b, off, rfl, e0, e1, e2⟩ := rd_sg RA.out.rd hd
  obtain ⟨x, hx⟩ : ∃ x, L[i] = x := ⟨_, rfl⟩
  have HX := Lib.hid hx
  rw [hx] at e0 e1 e2
  obtain ⟨xk, xt, xp⟩ := x
  simp only at e0 e1 e2
  have E0 := Lib.hid e0
  have E1 := Lib.hid e1
  clear hx e0 e1 e2
  rw [HX.out] at hk
  simp only at hk
  have hkb : (xk == 1) = false := beq_eq_false_iff_ne.2 hk
  clear hk
  go_enter Tryd.func26, Tryd.ntmps26
  go_upto_region 1 with fail
  refine wp_region_later (by kernel_rfl) (by kernel_rfl) ?_
  intro gw hgw hcw
  have HG := Lib.hid hgw
  have HC := Lib.hid hcw
  clear hgw hcw
  have P := Lib.hid (fun m => (RA.out.below (HG.out m)).cs)
  have p0 : ∀ m, (gw m).cell? ⟨rb, 0, none⟩ = some (.slice (some ⟨b, off, none⟩) L.length c) := fun m => (P.out m).1
  have p1 : ∀ m, (gw m).cell? ⟨rb, 1, none⟩ = some (.int .i64 (i : Int)) := fun m => (P.out m).2.1
  have p3 : ∀ m, (gw m).cell? ⟨rb, 3, none⟩ = some (.int .i64 fc) := fun m => (P.out m).2.2.2.1
  have s0 : ∀ m, (gw m).cell? ⟨b, off + i * 3, none⟩ = some (.int .i64 xk) := fun m => cell_keep (HG.out m) E0.out
  have s1 : ∀ m, (gw m).cell? ⟨b, off + i * 3 + 1, none⟩ = some (.string xt) := fun m => cell_keep (HG.out m) E1.out
  repeat (go_big_quiet_step (fail))
  refine wpQuiet_nil ?_
  intro _ hw'
  obtain ⟨nq, hw''⟩ := hw'
  subst hw''
  go_wp2_with fail
  go_ret
  exact ⟨rfl, HG.out _⟩
set_option maxHeartbeats 1600000 in
set_option maxRecDepth 100000 in
theorem rs_named_at (w : World) (rb : Nat) (A : Option Addr) (c n i : Nat) (L : List Sg) (fc : Int) (fp : Nat) (lf : Int) (h : RsAt w rb A c n i L fc fp lf) (hf : fc = 0) (hd : i < L.length) (hk : L[i].k = 1) (r : Bool) (hr : isNameL L[i].t.data.toList = r) : Calls Tryd.prog 26 #[.pointer (some ⟨rb, 0, none⟩)] w fun e w' => e = .returned (.bool r) ∧ Below w.heap.size w w' := by
  have RA := Lib.hid h
  have hfb : (fc == 0) = true := beq_iff_eq.2 hf
  have hdi : (i : Int) < (L.length : Int) := by omega
  have h0i : (0 : Int) ≤ (i : Int) := by omega
  have hLL := h.hL
  have hcc := h.hc
  clear h hf
  obtain ⟨b, off, rfl, e0, e1, e2⟩ := rd_sg RA.out.rd hd
  obtain ⟨x, hx⟩ : ∃ x, L[i] = x := ⟨_, rfl⟩
  have HX := Lib.hid hx
  rw [hx] at e0 e1 e2
  obtain ⟨xk, xt, xp⟩ := x
  simp only at e0 e1 e2
  have E0 := Lib.hid e0
  have E1 := Lib.hid e1
  clear hx e0 e1 e2
  rw [HX.out] at hk hr
  simp only at hk hr
  have hkb : (xk == 1) = true := beq_iff_eq.2 hk
  have HN := Lib.hid hr
  clear hk hr
  go_enter Tryd.func26, Tryd.ntmps26
  go_upto_region 1 with fail
  refine wp_region_later (by kernel_rfl) (by kernel_rfl) ?_
  intro gw hgw hcw
  have HG := Lib.hid hgw
  have HC := Lib.hid hcw
  clear hgw hcw
  have P := Lib.hid (fun m => (RA.out.below (HG.out m)).cs)
  have p0 : ∀ m, (gw m).cell? ⟨rb, 0, none⟩ = some (.slice (some ⟨b, off, none⟩) L.length c) := fun m => (P.out m).1
  have p1 : ∀ m, (gw m).cell? ⟨rb, 1, none⟩ = some (.int .i64 (i : Int)) := fun m => (P.out m).2.1
  have p3 : ∀ m, (gw m).cell? ⟨rb, 3, none⟩ = some (.int .i64 fc) := fun m => (P.out m).2.2.2.1
  have s0 : ∀ m, (gw m).cell? ⟨b, off + i * 3, none⟩ = some (.int .i64 xk) := fun m => cell_keep (HG.out m) E0.out
  have s1 : ∀ m, (gw m).cell? ⟨b, off + i * 3 + 1, none⟩ = some (.string xt) := fun m => cell_keep (HG.out m) E1.out
  have QN := Lib.hid (fun m => spec_IsName xt (gw m))
  repeat (go_big_quiet_step ((first | (go_at_call 45; with_reducible exact later_same (QN.out _)))))
  refine wpQuiet_nil ?_
  intro _ hw'
  obtain ⟨nq, hw''⟩ := hw'
  subst hw''
  rw [HN.out]
  go_wp2_with fail
  go_ret
  exact ⟨rfl, HG.out _⟩
theorem rs_named (w : World) (rb : Nat) (A : Option Addr) (c n i : Nat) (L : List Sg) (fc : Int) (fp : Nat) (lf : Int) (h : RsAt w rb A c n i L fc fp lf) (hs : SgsOk L) : Calls Tryd.prog 26 #[.pointer (some ⟨rb, 0, none⟩)] w fun e w' => e = .returned (.bool (decide (fc = 0) && nmB L i)) ∧ Below w.heap.size w w' := by
  by_cases hf : fc = 0
  · rw [decide_eq_true hf, Bool.true_and]
    by_cases hd : i < L.length
    · by_cases hk : L[i].k = 1
      · have := rs_named_at w rb A c n i L fc fp lf h hf hd hk _ rfl
        unfold nmB
        rwa [tx_lt hd]
      · have := rs_named_other w rb A c n i L fc fp lf h hf hd hk
        have e : nmB L i = false := by
          cases hn : nmB L i with
          | false => rfl
          | true => exact absurd (by rw [← sgAt_lt hd]; exact hs.at hn) hk
        rwa [e]
    · rw [nmB_ge hd]
      exact rs_named_end w rb A c n i L fc fp lf h hf hd
  · rw [decide_eq_false hf, Bool.false_and]
    exact rs_named_fault w rb A c n i L fc fp lf h hf
set_option maxHeartbeats 1600000 in
set_option maxRecDepth 100000 in
theorem rs_name (w : World) (rb : Nat) (A : Option Addr) (c n i : Nat) (L : List Sg) (fp : Nat) (lf : Int) (h : RsAt w rb A c n i L 0 fp lf) (hs : SgsOk L) :
    Calls Tryd.prog 15 #[.pointer (some ⟨rb, 0, none⟩)] w fun e w' => KeepR rb w w' ∧ ((nmB L i = true ∧ e = .returned (.string (tx L i)) ∧ RsAt w' rb A c n (i + 1) L 0 fp lf) ∨ (nmB L i = false ∧ e = .returned (.string ⟨#[]⟩) ∧ RsAt w' rb A c n i L 3 (posAt L n i) lf)) := by
  have RA := Lib.hid h
  have HS := Lib.hid hs
  have hL := h.hL
  have hcc := h.hc
  clear h hs
  cases hd : nmB L i with
  | true =>
    have hlt := there_n hd
    have HN : Hid (nmB L i = true) := Lib.hid hd
    have HT := Lib.hid (tx_lt hlt)
    obtain ⟨b, off, rfl, e0, e1, e2⟩ := rd_sg RA.out.rd hlt
    obtain ⟨x, hx⟩ : ∃ x, L[i] = x := ⟨_, rfl⟩
    rw [hx] at HT e1
    have E1 := Lib.hid e1
    obtain ⟨xk, xt, xp⟩ := x
    simp only at HT E1
    have hne := RA.out.off b off rfl
    have h0i : (0 : Int) ≤ (i : Int) := by omega
    have hdi : (i : Int) < (L.length : Int) := by omega
    clear hd hx e0 e1 e2
    go_enter Tryd.func15, Tryd.ntmps15
    go_wp2_with fail
    refine (rs_named _ rb _ c n i L 0 fp lf RA.out HS.out).mono ?_
    rintro e w1 ⟨rfl, b1⟩
    rw [show (decide ((0 : Int) = 0) && nmB L i) = true from by rw [HN.out]; rfl]
    have R1 := Lib.hid (RA.out.below b1)
    have K1 := Lib.hid (KeepR.of_below' (rb := rb) b1)
    have F1 := Lib.hid (cell_keep b1 E1.out)
    obtain ⟨q0, q1, _⟩ := R1.out.cs
    have g1 := R1.out.fz 1
    have hrb := R1.out.lt
    clear b1
    go_upto_region 5 with fail
    have R2 : Hid (RsAt (w1.setCell ⟨rb, 1, none⟩ (.int .i64 ((i : Int) + 1))) rb (some ⟨b, off, none⟩) c n (i + 1) L 0 fp lf) := Lib.hid (R1.out.seti (by omega))
    have K2 : Hid (KeepR rb w (w1.setCell ⟨rb, 1, none⟩ (.int .i64 ((i : Int) + 1)))) := Lib.hid (K1.out.setCell (p := ⟨rb, 1, none⟩) (by simp) _)
    have F2 : Hid ((w1.setCell ⟨rb, 1, none⟩ (.int .i64 ((i : Int) + 1))).cell? ⟨b, off + i * 3 + 1, none⟩ = some (.string xt)) := Lib.hid ((World.cell?_setCell_other _ _ _ _ (by intro e; injection e with e1; first | exact hne e1 | exact hne e1.symm)).trans F1.out)
    obtain ⟨w2, hw2⟩ : ∃ w2, w1.setCell ⟨rb, 1, none⟩ (.int .i64 ((i : Int) + 1)) = w2 := ⟨_, rfl⟩
    rw [hw2] at R2 K2 F2 ⊢
    clear hw2 q0 q1 g1
    refine wp_region_later (by kernel_rfl) (by kernel_rfl) ?_
    intro gw hgw hcw
    have HG := Lib.hid hgw
    have HC := Lib.hid hcw
    clear hgw hcw
    have P := Lib.hid (fun m => (R2.out.below (HG.out m)).cs)
    have p0 : ∀ m, (gw m).cell? ⟨rb, 0, none⟩ = some (.slice (some ⟨b, off, none⟩) L.length c) := fun m => (P.out m).1
    have p1 : ∀ m, (gw m).cell? ⟨rb, 1, none⟩ = some (.int .i64 ((i : Int) + 1)) := fun m => by have := (P.out m).2.1; rwa [show ((i + 1 : Nat) : Int) = (i : Int) + 1 from by omega] at this
    have s1 : ∀ m, (gw m).cell? ⟨b, off + i * 3 + 1, none⟩ = some (.string xt) := fun m => cell_keep (HG.out m) F2.out
    repeat (go_big_quiet_step (fail))
    refine wpQuiet_nil ?_
    intro _ hw'
    obtain ⟨nq, hw''⟩ := hw'
    subst hw''
    go_wp2_with fail
    go_ret
    exact ⟨K2.out.trans' (KeepR.of_below' (HG.out _)), .inl ⟨by simp, by rw [HT.out]; rfl, R2.out.below (HG.out _)⟩⟩
  | false =>
    have HN : Hid (nmB L i = false) := Lib.hid hd
    clear hd
    go_enter Tryd.func15, Tryd.ntmps15
    go_wp2_with fail
    refine (rs_named _ rb _ c n i L 0 fp lf RA.out HS.out).mono ?_
    rintro e w1 ⟨rfl, b1⟩
    rw [show (decide ((0 : Int) = 0) && nmB L i) = false from by rw [HN.out]; rfl]
    have R1 := Lib.hid (RA.out.below b1)
    have K1 := Lib.hid (KeepR.of_below' (rb := rb) b1)
    clear b1
    go_wp2_with fail
    refine (rs_bad 3 _ rb A c n i L fp lf R1.out).mono ?_
    rintro e w2 ⟨rfl, r2, k2⟩
    have R2 := Lib.hid r2
    have K2 := Lib.hid (K1.out.trans' k2)
    clear r2 k2
    go_wp2_with fail
    go_ret
    exact ⟨K2.out, .inr ⟨by simp, rfl, R2.out⟩⟩
end Go.Proofs.YtdanlgmpgdipnaaDoor
