/- Several texts in one: RdI. -/
import Derived.Test.YtdanlgmpgdipnaaDoorKd9
import Derived.Test.YtdanlgmpgdipnaaDoorKd11
import Derived.Test.YtdanlgmpgdipnaaDoorKd13
import Derived.Deep.CutRange
namespace Go.Proofs.YtdanlgmpgdipnaaDoor
open Go.RowKit
set_option linter.unusedVariables false


/-- a reader in block rb -/
structure RdAt (w : World) (rb : Nat) (A : Option Addr) (c n i : Nat) (L : List Sg) (fc : Int) (fp : Nat) : Prop where
  cells : w.heap[rb]? = some (.cells #[.slice A L.length c, .int .i64 (n : Int), .int .i64 (i : Int), .int .i64 fc, .int .i64 (fp : Int)] 51 (0, 0))
  rd : Rd w 3 A L.length (L.flatMap sgF)
  off : ∀ b o, A = some ⟨b, o, none⟩ → b ≠ rb
  hi : i ≤ 6000
  hn : n ≤ 6000
  hL : L.length ≤ 6000
  hc : L.length ≤ c
abbrev KeepR (rb : Nat) (w w' : World) : Prop := Keep (fun b => b ≠ rb) w w'
theorem KeepR.trans' {rb : Nat} {u v x : World} (h : KeepR rb u v) (k : KeepR rb v x) : KeepR rb u x := Keep.trans h k (fun _ _ h => h)
theorem KeepR.of_below' {rb : Nat} {w w' : World} (h : Below w.heap.size w w') : KeepR rb w w' := Keep.of_below h
section
variable {w : World} {rb : Nat} {A : Option Addr} {c n i : Nat} {L : List Sg} {fc : Int} {fp : Nat}
theorem RdAt.lt (h : RdAt w rb A c n i L fc fp) : rb < w.heap.size := lt_of_block h.cells
theorem RdAt.below {w' : World} (h : RdAt w rb A c n i L fc fp) (hb : Below w.heap.size w w') : RdAt w' rb A c n i L fc fp :=
  ⟨(hb.block rb h.lt).trans h.cells, h.rd.below hb, h.off, h.hi, h.hn, h.hL, h.hc⟩
theorem RdAt.cs (h : RdAt w rb A c n i L fc fp) : w.cell? ⟨rb, 0, none⟩ = some (.slice A L.length c) ∧ w.cell? ⟨rb, 1, none⟩ = some (.int .i64 (n : Int)) ∧ w.cell? ⟨rb, 2, none⟩ = some (.int .i64 (i : Int)) ∧ w.cell? ⟨rb, 3, none⟩ = some (.int .i64 fc) ∧ w.cell? ⟨rb, 4, none⟩ = some (.int .i64 (fp : Int)) := by
  have hh := h.cells
  refine ⟨?_, ?_, ?_, ?_, ?_⟩ <;> simp [World.cell?, hh]
theorem RdAt.fz (h : RdAt w rb A c n i L fc fp) (j : Nat) : w.frozen? ⟨rb, j, none⟩ = false := by
  have hh := h.cells
  simp [World.frozen?, hh]
theorem rd_set {u : Value} {o : Nat} (rd : Rd w 3 A L.length (L.flatMap sgF)) (off : ∀ b o, A = some ⟨b, o, none⟩ → b ≠ rb) : Rd (w.setCell ⟨rb, o, none⟩ u) 3 A L.length (L.flatMap sgF) := by
  refine ⟨rd.1, fun h0 => ?_⟩
  obtain ⟨b, o', e, hc⟩ := rd.2 h0
  refine ⟨b, o', e, fun j x hx => ?_⟩
  have hne := off b o' e
  rw [← hc j x hx]
  exact World.cell?_setCell_other _ _ _ _ (by simp only [ne_eq, Addr.mk.injEq, not_and]; intro h; exact absurd h.symm hne)
theorem RdAt.seti (h : RdAt w rb A c n i L fc fp) (i' : Nat) (hi' : i' ≤ 6000) : RdAt (w.setCell ⟨rb, 2, none⟩ (.int .i64 (i' : Int))) rb A c n i' L fc fp :=
  ⟨by have hh := h.cells; simp [World.setCell, Array.getElem?_modify, hh], rd_set h.rd h.off, h.off, hi', h.hn, h.hL, h.hc⟩
theorem RdAt.setf (h : RdAt w rb A c n i L fc fp) (fc' : Int) (fp' : Nat) : RdAt ((w.setCell ⟨rb, 3, none⟩ (.int .i64 fc')).setCell ⟨rb, 4, none⟩ (.int .i64 (fp' : Int))) rb A c n i L fc' fp' :=
  ⟨by have hh := h.cells; simp [World.setCell, Array.getElem?_modify, hh], rd_set (rd_set h.rd h.off) h.off, h.off, h.hi, h.hn, h.hL, h.hc⟩
theorem RdAt.setp (h : RdAt w rb A c n i L fc fp) (fp' : Nat) : RdAt (w.setCell ⟨rb, 4, none⟩ (.int .i64 (fp' : Int))) rb A c n i L fc fp' :=
  ⟨by have hh := h.cells; simp [World.setCell, Array.getElem?_modify, hh], rd_set h.rd h.off, h.off, h.hi, h.hn, h.hL, h.hc⟩
end
set_option maxHeartbeats 800000 in
set_option maxRecDepth 100000 in
theorem rd_atEnd (w : World) (rb : Nat) (A : Option Addr) (c n i : Nat) (L : List Sg) (fc : Int) (fp : Nat) (h : RdAt w rb A c n i L fc fp) :
    Calls Tryd.prog 31 #[.pointer (some ⟨rb, 0, none⟩)] w fun e w' => e = .returned (.bool (decide (L.length ≤ i))) ∧ Below w.heap.size w w' := by
  have RA := Lib.hid h
  have hL := h.hL
  have hi := h.hi
  clear h
  cases hd : decide (L.length ≤ i) with
  | true =>
    have h0 : (L.length : Int) ≤ (i : Int) := by have := of_decide_eq_true hd; omega
    go_enter Tryd.func31, Tryd.ntmps31
    go_upto_region 1 with fail
    refine wp_region_later (by kernel_rfl) (by kernel_rfl) ?_
    intro gw hgw hcw
    have HG := Lib.hid hgw
    have HC := Lib.hid hcw
    clear hgw hcw
    have P := Lib.hid (fun m => (RA.out.below (HG.out m)).cs)
    have p0 : ∀ m, (gw m).cell? ⟨rb, 0, none⟩ = some (.slice A L.length c) := fun m => (P.out m).1
    have p2 : ∀ m, (gw m).cell? ⟨rb, 2, none⟩ = some (.int .i64 (i : Int)) := fun m => (P.out m).2.2.1
    repeat (go_big_quiet_step (fail))
    refine wpQuiet_nil ?_
    intro _ hw'
    obtain ⟨nq, hw''⟩ := hw'
    subst hw''
    go_wp2_with fail
    go_ret
    exact ⟨rfl, HG.out _⟩
  | false =>
    have h0 : ¬ (L.length : Int) ≤ (i : Int) := by have := of_decide_eq_false hd; omega
    go_enter Tryd.func31, Tryd.ntmps31
    go_upto_region 1 with fail
    refine wp_region_later (by kernel_rfl) (by kernel_rfl) ?_
    intro gw hgw hcw
    have HG := Lib.hid hgw
    have HC := Lib.hid hcw
    clear hgw hcw
    have P := Lib.hid (fun m => (RA.out.below (HG.out m)).cs)
    have p0 : ∀ m, (gw m).cell? ⟨rb, 0, none⟩ = some (.slice A L.length c) := fun m => (P.out m).1
    have p2 : ∀ m, (gw m).cell? ⟨rb, 2, none⟩ = some (.int .i64 (i : Int)) := fun m => (P.out m).2.2.1
    repeat (go_big_quiet_step (fail))
    refine wpQuiet_nil ?_
    intro _ hw'
    obtain ⟨nq, hw''⟩ := hw'
    subst hw''
    go_wp2_with fail
    go_ret
    exact ⟨rfl, HG.out _⟩
theorem sign_set {w : World} {g : Nat} {a b c : Value} {T : TypeId} (h : w.heap[g]? = some (.cells #[a, b, c] T (0, 0))) (x y z : Value) :
    (((w.setCell ⟨g, 0, none⟩ x).setCell ⟨g, 1, none⟩ y).setCell ⟨g, 2, none⟩ z).drew.heap[g]? = some (.cells #[x, y, z] T (0, 0)) := by
  show (((w.setCell ⟨g, 0, none⟩ x).setCell ⟨g, 1, none⟩ y).setCell ⟨g, 2, none⟩ z).heap[g]? = _
  simp [World.setCell, Array.getElem?_modify, h]
set_option maxHeartbeats 800000 in
set_option maxRecDepth 100000 in
theorem rd_next (w : World) (rb : Nat) (A : Option Addr) (c n i : Nat) (L : List Sg) (fc : Int) (fp : Nat) (h : RdAt w rb A c n i L fc fp) :
    Calls Tryd.prog 32 #[.pointer (some ⟨rb, 0, none⟩)] w fun e w' => e = .returned (.agg #[.int .i64 (sgAt L i).k, .string (tx L i), .int .i64 ((sgAt L i).p : Int)]) ∧ Below w.heap.size w w' := by
  have RA := Lib.hid h
  have hL := h.hL
  have hi := h.hi
  have hc := h.hc
  clear h
  by_cases hd : i < L.length
  · have hdd : decide (L.length ≤ i) = false := decide_eq_false (by omega)
    have h0 : (0 : Int) ≤ (i : Int) := by omega
    have h1 : (i : Int) < (L.length : Int) := by omega
    have HS := Lib.hid (sgAt_lt hd)
    have hrd := rd_sg RA.out.rd hd
    obtain ⟨b, off, rfl, e0, e1, e2⟩ := hrd
    have hlt := cell_lt e0
    simp only at hlt
    unfold tx
    rw [HS.out]
    generalize hx : L[i] = x at *
    obtain ⟨xk, xt, xp⟩ := x
    simp only at e0 e1 e2 ⊢
    clear hx
    go_enter Tryd.func32, Tryd.ntmps32
    go_wp2_with fail
    refine (rd_atEnd _ rb _ c n i L fc fp (RA.out.below (by repeat' (first | exact Below.refl _ _ | exact Nat.le_refl _ | (refine Below.alloc ?_ ?_ _) | (refine Below.setCell ?_ ?_ _) | (refine Below.drew ?_) | (refine below_drewN ?_ _) | assumption | (simp; done) | (simp; omega))))).mono ?_
    rintro e w1 ⟨rfl, b1⟩
    have R1 := Lib.hid ((RA.out.below (Below.alloc (Below.refl _ _) (Nat.le_refl _) _)).below b1)
    have B1 : Hid (Below w.heap.size w w1) := Lib.hid (Below.trans (Below.alloc (Below.refl _ _) (Nat.le_refl _) _) (b1.mono (by simp)))
    have hv : w1.heap[w.heap.size]? = some (.cells #[.int .i64 0, .string ByteArray.empty, .int .i64 0] 62 (0, 0)) := (b1.block _ (by simp)).trans (heap_alloc_new _ _)
    rw [hdd]
    have hz := lt_of_block hv
    have v0 : w1.cell? ⟨w.heap.size, 0, none⟩ = some (.int .i64 0) := by simp [World.cell?, hv]
    have v1 : w1.cell? ⟨w.heap.size, 1, none⟩ = some (.string ByteArray.empty) := by simp [World.cell?, hv]
    have v2 : w1.cell? ⟨w.heap.size, 2, none⟩ = some (.int .i64 0) := by simp [World.cell?, hv]
    have f0 : w1.frozen? ⟨w.heap.size, 0, none⟩ = false := by simp [World.frozen?, hv]
    have f1 : w1.frozen? ⟨w.heap.size, 1, none⟩ = false := by simp [World.frozen?, hv]
    have f2 : w1.frozen? ⟨w.heap.size, 2, none⟩ = false := by simp [World.frozen?, hv]
    replace e0 := cell_keep B1.out e0
    replace e1 := cell_keep B1.out e1
    replace e2 := cell_keep B1.out e2
    obtain ⟨p0, _, p2, _, _⟩ := R1.out.cs
    have hrb := RA.out.lt
    clear b1
    generalize hg : w.heap.size = g at *
    have HGG := Lib.hid hg
    go_upto_region 3 with fail
    have hn1 : ¬ g = rb := by omega
    have hn2 : ¬ g = b := by omega
    have hn3 : ¬ rb = g := by omega
    have hn4 : ¬ b = g := by omega
    go_region_held3 (fun w' => w'.cell? ⟨rb, 0, none⟩ = some (.slice (some ⟨b, off, none⟩) L.length c) ∧ w'.cell? ⟨rb, 2, none⟩ = some (.int .i64 (i : Int)) ∧ w'.cell? ⟨b, off + i * 3, none⟩ = some (.int .i64 xk) ∧ w'.cell? ⟨b, off + i * 3 + 1, none⟩ = some (.string xt) ∧ w'.cell? ⟨b, off + i * 3 + 2, none⟩ = some (.int .i64 (xp : Int)) ∧ w'.frozen? ⟨g, 0, none⟩ = false ∧ w'.frozen? ⟨g, 1, none⟩ = false ∧ w'.frozen? ⟨g, 2, none⟩ = false)
      (first | go_keep | (refine ⟨?_, ?_, ?_, ?_, ?_, ?_, ?_, ?_⟩ <;> first | assumption | (simp [World.cell?_setCell_other, Addr.mk.injEq, *]; done)))
      (first | fail)
    obtain ⟨W, hW⟩ : ∃ W, (((w1.setCell ⟨g, 0, none⟩ (.int .i64 xk)).setCell ⟨g, 1, none⟩ (.string xt)).setCell ⟨g, 2, none⟩ (.int .i64 (xp : Int))).drew = W := ⟨_, rfl⟩
    have hWg : W.heap[g]? = some (.cells #[.int .i64 xk, .string xt, .int .i64 (xp : Int)] 62 (0, 0)) := by
      rw [← hW]
      exact sign_set hv _ _ _
    have y0 : W.cell? ⟨g, 0, none⟩ = some (.int .i64 xk) := by simp [World.cell?, hWg]
    have y1 : W.cell? ⟨g, 1, none⟩ = some (.string xt) := by simp [World.cell?, hWg]
    have y2 : W.cell? ⟨g, 2, none⟩ = some (.int .i64 (xp : Int)) := by simp [World.cell?, hWg]
    have BW : Below w.heap.size w W := by
      rw [← hW, HGG.out]
      exact (((B1.out.setCell (p := ⟨g, 0, none⟩) (Nat.le_refl _) _).setCell (p := ⟨g, 1, none⟩) (Nat.le_refl _) _).setCell (p := ⟨g, 2, none⟩) (Nat.le_refl _) _).drew
    rw [hW]
    clear hW v0 v1 v2 f0 f1 f2 hv hWg
    go_wp2_with fail
    change bodyPost _ _ _ _ _ _
    refine bodyPost_ret (v := .agg #[.int .i64 xk, .string xt, .int .i64 (xp : Int)]) (by simp [results, Tryd.results32, go_sem, y0, y1, y2]) rfl ?_
    exact ⟨rfl, BW⟩
  · have hdd : decide (L.length ≤ i) = true := decide_eq_true (by omega)
    have HS := Lib.hid (sgAt_ge hd)
    unfold tx
    rw [HS.out]
    go_enter Tryd.func32, Tryd.ntmps32
    go_wp2_with fail
    refine (rd_atEnd _ rb _ c n i L fc fp (RA.out.below (by repeat' (first | exact Below.refl _ _ | exact Nat.le_refl _ | (refine Below.alloc ?_ ?_ _) | (refine Below.setCell ?_ ?_ _) | (refine Below.drew ?_) | (refine below_drewN ?_ _) | assumption | (simp; done) | (simp; omega))))).mono ?_
    rintro e w1 ⟨rfl, b1⟩
    have B1 : Hid (Below w.heap.size w w1) := Lib.hid (Below.trans (Below.alloc (Below.refl _ _) (Nat.le_refl _) _) (b1.mono (by simp)))
    have hv : w1.heap[w.heap.size]? = some (.cells #[.int .i64 0, .string ByteArray.empty, .int .i64 0] 62 (0, 0)) := (b1.block _ (by simp)).trans (heap_alloc_new _ _)
    have hz := lt_of_block hv
    have f0 : w1.frozen? ⟨w.heap.size, 0, none⟩ = false := by simp [World.frozen?, hv]
    have f1 : w1.frozen? ⟨w.heap.size, 1, none⟩ = false := by simp [World.frozen?, hv]
    have f2 : w1.frozen? ⟨w.heap.size, 2, none⟩ = false := by simp [World.frozen?, hv]
    have v0 : w1.cell? ⟨w.heap.size, 0, none⟩ = some (.int .i64 0) := by simp [World.cell?, hv]
    have v1 : w1.cell? ⟨w.heap.size, 1, none⟩ = some (.string ByteArray.empty) := by simp [World.cell?, hv]
    have v2 : w1.cell? ⟨w.heap.size, 2, none⟩ = some (.int .i64 0) := by simp [World.cell?, hv]
    rw [hdd]
    have HV := Lib.hid hv
    clear b1 hv
    go_wp2_with fail
    obtain ⟨W, hW⟩ : ∃ W, (((w1.setCell ⟨w.heap.size, 0, none⟩ (.int .i64 0)).setCell ⟨w.heap.size, 1, none⟩ (.string ⟨#[]⟩)).setCell ⟨w.heap.size, 2, none⟩ (.int .i64 0)) = W := ⟨_, rfl⟩
    have hWg : W.heap[w.heap.size]? = some (.cells #[.int .i64 0, .string ⟨#[]⟩, .int .i64 0] 62 (0, 0)) := by
      rw [← hW]
      exact sign_set HV.out _ _ _
    have y0 : W.cell? ⟨w.heap.size, 0, none⟩ = some (.int .i64 0) := by simp [World.cell?, hWg]
    have y1 : W.cell? ⟨w.heap.size, 1, none⟩ = some (.string ⟨#[]⟩) := by simp [World.cell?, hWg]
    have y2 : W.cell? ⟨w.heap.size, 2, none⟩ = some (.int .i64 0) := by simp [World.cell?, hWg]
    have BW : Below w.heap.size w W := by
      rw [← hW]
      exact (((B1.out.setCell (p := ⟨w.heap.size, 0, none⟩) (Nat.le_refl _) _).setCell (p := ⟨w.heap.size, 1, none⟩) (Nat.le_refl _) _).setCell (p := ⟨w.heap.size, 2, none⟩) (Nat.le_refl _) _)
    rw [hW]
    clear hW
    change bodyPost _ _ _ _ _ _
    refine bodyPost_ret (v := .agg #[.int .i64 0, .string ⟨#[]⟩, .int .i64 0]) (by simp [results, Tryd.results32, go_sem, y0, y1, y2]) rfl ?_
    exact ⟨rfl, BW⟩
set_option maxHeartbeats 800000 in
set_option maxRecDepth 100000 in
theorem rd_fail (code : Int) (w : World) (rb : Nat) (A : Option Addr) (c n i : Nat) (L : List Sg) (fp : Nat) (h : RdAt w rb A c n i L 0 fp) :
    Calls Tryd.prog 33 #[.pointer (some ⟨rb, 0, none⟩), .int .i64 code] w fun e w' => e = .returned (.bool false) ∧ RdAt w' rb A c n i L code (posAt L n i) ∧ KeepR rb w w' := by
  have RA := Lib.hid h
  have hL := h.hL
  have hi := h.hi
  have hc := h.hc
  clear h
  obtain ⟨p0, p1, p2, p3, p4⟩ := RA.out.cs
  have f3 := RA.out.fz 3
  have f4 := RA.out.fz 4
  have R1 := Lib.hid (RA.out.setf code n)
  have K1 : Hid (KeepR rb w ((w.setCell ⟨rb, 3, none⟩ (.int .i64 code)).setCell ⟨rb, 4, none⟩ (.int .i64 (n : Int)))) := Lib.hid (((Keep.refl _ _).setCell (p := ⟨rb, 3, none⟩) (by simp) _).setCell (p := ⟨rb, 4, none⟩) (by simp) _)
  by_cases hd : i < L.length
  · have hdd : decide (L.length ≤ i) = false := decide_eq_false (by omega)
    have h0 : (0 : Int) ≤ (i : Int) := by omega
    have h1 : (i : Int) < (L.length : Int) := by omega
    have HP := Lib.hid (posAt_lt (n := n) hd)
    obtain ⟨b, off, rfl, _, _, e2⟩ := rd_sg R1.out.rd hd
    have hne := RA.out.off b off rfl
    have hn1 : ¬ b = rb := hne
    have hn2 : ¬ rb = b := fun e => hne e.symm
    generalize hx : L[i] = x at *
    obtain ⟨xk, xt, xp⟩ := x
    simp only at e2 HP
    have E2 := Lib.hid e2
    clear hx e2
    go_enter Tryd.func33, Tryd.ntmps33
    go_wp2_with fail
    refine (rd_atEnd _ rb _ c n i L code n R1.out).mono ?_
    rintro e w1 ⟨rfl, b1⟩
    have R2 := Lib.hid (R1.out.below b1)
    have K2 := Lib.hid (K1.out.trans' (KeepR.of_below' b1))
    have e2 := cell_keep b1 E2.out
    obtain ⟨q0, _, q2, _, _⟩ := R2.out.cs
    have g4 := R2.out.fz 4
    have hrb := R2.out.lt
    rw [hdd]
    clear b1 p0 p1 p2 p3 p4 f3 f4
    go_upto_region 4 with fail
    go_region_held3 (fun w' => w'.cell? ⟨rb, 0, none⟩ = some (.slice (some ⟨b, off, none⟩) L.length c) ∧ w'.cell? ⟨rb, 2, none⟩ = some (.int .i64 (i : Int)) ∧ w'.cell? ⟨b, off + i * 3 + 2, none⟩ = some (.int .i64 (xp : Int)) ∧ w'.frozen? ⟨rb, 4, none⟩ = false)
      (first | (refine ⟨?_, ?_, ?_, ?_⟩ <;> first | assumption | exact (World.cell?_setCell_other _ _ _ _ (by simp)).trans (by assumption) | (simp [*]; done)) | go_keep)
      (first | fail)
    have R3 : Hid (RdAt (w1.setCell ⟨rb, 4, none⟩ (.int .i64 (xp : Int))).drew rb (some ⟨b, off, none⟩) c n i L code xp) := Lib.hid ((R2.out.setp xp).below (Below.refl _ _).drew)
    have K3 : Hid (KeepR rb w (w1.setCell ⟨rb, 4, none⟩ (.int .i64 (xp : Int))).drew) := Lib.hid (KeepR.trans' (K2.out.setCell (p := ⟨rb, 4, none⟩) (by simp) _) (KeepR.of_below' (Below.refl _ _).drew))
    go_wp2_with fail
    go_ret
    exact ⟨rfl, by rw [HP.out]; exact R3.out, K3.out⟩
  · have hdd : decide (L.length ≤ i) = true := decide_eq_true (by omega)
    have HP := Lib.hid (posAt_ge (n := n) hd)
    go_enter Tryd.func33, Tryd.ntmps33
    go_wp2_with fail
    refine (rd_atEnd _ rb _ c n i L code n R1.out).mono ?_
    rintro e w1 ⟨rfl, b1⟩
    have R2 := Lib.hid (R1.out.below b1)
    have K2 := Lib.hid (K1.out.trans' (KeepR.of_below' b1))
    rw [hdd]
    clear b1 p0 p1 p2 p3 p4 f3 f4
    go_wp2_with fail
    go_ret
    exact ⟨rfl, by rw [HP.out]; exact R2.out, K2.out⟩
theorem sg_field (a : Int) (t : ByteArray) (p : Int) (w : World) : (Instr.field 62 (.agg #[.int .i64 a, .string t, .int .i64 p]) 1).run Tryd.prog w = .ok (.string t) w := by kernel_rfl
set_option maxHeartbeats 800000 in
set_option maxRecDepth 100000 in
theorem rd_take (s : ByteArray) (w : World) (rb : Nat) (A : Option Addr) (c n i : Nat) (L : List Sg) (fp : Nat) (h : RdAt w rb A c n i L 0 fp) (h0 : s ≠ ⟨#[]⟩) :
    Calls Tryd.prog 49 #[.pointer (some ⟨rb, 0, none⟩), .string s] w fun e w' => KeepR rb w w' ∧ ((tx L i = s ∧ e = .returned (.bool true) ∧ RdAt w' rb A c n (i + 1) L 0 fp) ∨ (¬ tx L i = s ∧ e = .returned (.bool false) ∧ RdAt w' rb A c n i L 3 (posAt L n i))) := by
  have RA := Lib.hid h
  have hL := h.hL
  have hi := h.hi
  have hc := h.hc
  clear h
  have hfd := sg_field
  by_cases hd : tx L i = s
  · have hlt : i < L.length := there_of (by rw [hd]; exact h0)
    have HD := Lib.hid hd
    have hss : (s.toList != s.toList) = false := by simp
    have hss2 : decide (s = s) = true := by simp
    go_enter Tryd.func49, Tryd.ntmps49
    go_wp2_with fail
    refine (rd_next _ rb A c n i L 0 fp RA.out).mono ?_
    rintro e w1 ⟨rfl, b1⟩
    rw [HD.out]
    have R1 := Lib.hid (RA.out.below b1)
    have K1 := Lib.hid (KeepR.of_below' (rb := rb) b1)
    obtain ⟨_, _, q2, _, _⟩ := R1.out.cs
    have g2 := R1.out.fz 2
    have hrb := R1.out.lt
    clear b1 hd
    go_wp2_with fail
    go_ret
    exact ⟨K1.out.setCell (p := ⟨rb, 2, none⟩) (by simp) _, .inl ⟨HD.out, rfl, R1.out.seti (i + 1) (by omega)⟩⟩
  · have hss : ((tx L i).toList != s.toList) = true := by
      rw [bne_iff_ne]
      intro e
      exact hd (str_ext (by rw [← Lib.toList_data, ← Lib.toList_data]; exact e))
    have hss2 : decide (tx L i = s) = false := decide_eq_false hd
    have hss3 : ((tx L i).toList == s.toList) = false := by simpa using hss
    have HD := Lib.hid hd
    clear hd
    go_enter Tryd.func49, Tryd.ntmps49
    go_wp2_with fail
    refine (rd_next _ rb A c n i L 0 fp RA.out).mono ?_
    rintro e w1 ⟨rfl, b1⟩
    have R1 := Lib.hid (RA.out.below b1)
    have K1 := Lib.hid (KeepR.of_below' (rb := rb) b1)
    obtain ⟨T, hT⟩ : ∃ T, tx L i = T := ⟨_, rfl⟩
    rw [hT] at hss hss2 hss3 ⊢
    clear b1 hT
    go_wp2_with fail
    refine (rd_fail 3 _ rb A c n i L fp R1.out).mono ?_
    rintro e w2 ⟨rfl, r2, k2⟩
    have R2 := Lib.hid r2
    have K2 := Lib.hid (K1.out.trans' k2)
    clear r2 k2
    go_wp2_with fail
    go_ret
    exact ⟨K2.out, .inr ⟨HD.out, rfl, R2.out⟩⟩
set_option maxHeartbeats 800000 in
set_option maxRecDepth 100000 in
theorem rd_takeName (w : World) (rb : Nat) (A : Option Addr) (c n i : Nat) (L : List Sg) (fp : Nat) (h : RdAt w rb A c n i L 0 fp) :
    Calls Tryd.prog 51 #[.pointer (some ⟨rb, 0, none⟩)] w fun e w' => KeepR rb w w' ∧ ((nmB L i = true ∧ e = .returned (.tuple #[.string (tx L i), .bool true]) ∧ RdAt w' rb A c n (i + 1) L 0 fp) ∨ (nmB L i = false ∧ e = .returned (.tuple #[.string ⟨#[]⟩, .bool false]) ∧ RdAt w' rb A c n i L 3 (posAt L n i))) := by
  have RA := Lib.hid h
  have hL := h.hL
  have hi := h.hi
  have hc := h.hc
  clear h
  have hfd := sg_field
  cases hd : nmB L i with
  | true =>
    have hlt : i < L.length := there_n hd
    have HN : Hid (isNameL (tx L i).data.toList = true) := Lib.hid hd
    clear hd
    go_enter Tryd.func51, Tryd.ntmps51
    go_wp2_with fail
    refine (rd_next _ rb A c n i L 0 fp RA.out).mono ?_
    rintro e w1 ⟨rfl, b1⟩
    have R1 := Lib.hid (RA.out.below b1)
    have K1 := Lib.hid (KeepR.of_below' (rb := rb) b1)
    obtain ⟨_, _, q2, _, _⟩ := R1.out.cs
    have g2 := R1.out.fz 2
    have hrb := R1.out.lt
    clear b1
    go_wp2_with fail
    refine (impl_IsName _ _).mono ?_
    rintro e w2 ⟨rfl, rfl⟩
    rw [HN.out]
    go_wp2_with fail
    go_ret2
    exact ⟨K1.out.setCell (p := ⟨rb, 2, none⟩) (by simp) _, .inl ⟨by simp, rfl, R1.out.seti (i + 1) (by omega)⟩⟩
  | false =>
    have HN : Hid (isNameL (tx L i).data.toList = false) := Lib.hid hd
    clear hd
    go_enter Tryd.func51, Tryd.ntmps51
    go_wp2_with fail
    refine (rd_next _ rb A c n i L 0 fp RA.out).mono ?_
    rintro e w1 ⟨rfl, b1⟩
    have R1 := Lib.hid (RA.out.below b1)
    have K1 := Lib.hid (KeepR.of_below' (rb := rb) b1)
    clear b1
    go_wp2_with fail
    refine (impl_IsName _ _).mono ?_
    rintro e w2 ⟨rfl, rfl⟩
    rw [HN.out]
    go_wp2_with fail
    refine (rd_fail 3 _ rb A c n i L fp R1.out).mono ?_
    rintro e w3 ⟨rfl, r2, k2⟩
    have R2 := Lib.hid r2
    have K2 := Lib.hid (K1.out.trans' k2)
    clear r2 k2
    go_wp2_with fail
    go_ret2
    exact ⟨K2.out, .inr ⟨by simp, rfl, R2.out⟩⟩
theorem kindOf_sign (k : Int) (hk : k = 3 ∨ k = 4 ∨ k = 5 ∨ k = 6 ∨ k = 7 ∨ k = 9) : kindOf (signB k) = k := by
  rcases hk with rfl | rfl | rfl | rfl | rfl | rfl <;> decide
theorem kindOf_none {t : ByteArray} (h : ∀ k : Int, (k = 3 ∨ k = 4 ∨ k = 5 ∨ k = 6 ∨ k = 7 ∨ k = 9) → signB k ≠ t) : kindOf t = 0 := by
  have h3 : ¬ t = ⟨#[43]⟩ := fun e => h 3 (by omega) (e ▸ rfl)
  have h4 : ¬ t = ⟨#[45]⟩ := fun e => h 4 (by omega) (e ▸ rfl)
  have h5 : ¬ t = ⟨#[42]⟩ := fun e => h 5 (by omega) (e ▸ rfl)
  have h6 : ¬ t = ⟨#[60]⟩ := fun e => h 6 (by omega) (e ▸ rfl)
  have h7 : ¬ t = ⟨#[61, 61]⟩ := fun e => h 7 (by omega) (e ▸ rfl)
  have h9 : ¬ t = ⟨#[97, 110, 100]⟩ := fun e => h 9 (by omega) (e ▸ rfl)
  unfold kindOf
  rw [if_neg h3, if_neg h4, if_neg h5, if_neg h6, if_neg h7, if_neg h9]
set_option maxHeartbeats 800000 in
set_option maxRecDepth 100000 in
theorem impl_signKind (t : ByteArray) (w : World) : Calls Tryd.prog 76 #[.string t] w fun e w' => e = .returned (.int .i64 (kindOf t)) ∧ w = w' := by
  go_enter Tryd.func76, Tryd.ntmps76
  go_wp2_with fail
  go_loopw [3] (fun iv wr => ∃ j : Nat, 3 ≤ j ∧ j ≤ 10 ∧ iv = .int .i64 (j : Int) ∧ wr = w ∧ Hid (∀ k : Int, (k = 3 ∨ k = 4 ∨ k = 5 ∨ k = 6 ∨ k = 7 ∨ k = 9) → k < (j : Int) → signB k ≠ t)) (fun iv _ => 10 - (intOf iv).toNat)
  case atStart => exact ⟨3, Nat.le_refl _, by omega, rfl, rfl, Lib.hid (fun k hk h => by omega)⟩
  case round =>
    obtain ⟨j, hj3, hj, rfl, rfl, HR⟩ := hrel
    by_cases hlt : j < 10
    case neg =>
      have HF : Hid (kindOf t = 0) := Lib.hid (kindOf_none fun k hk => HR.out k hk (by omega))
      have h0 : ¬ (j : Int) ≤ 9 := by omega
      go_wp2_with fail
      go_ret
      exact ⟨by rw [HF.out]; rfl, rfl⟩
    have h0 : (j : Int) ≤ 9 := by omega
    by_cases h8 : j = 8
    · subst h8
      have T : Hid (∀ k : Int, (k = 3 ∨ k = 4 ∨ k = 5 ∨ k = 6 ∨ k = 7 ∨ k = 9) → k < ((8 + 1 : Nat) : Int) → signB k ≠ t) := Lib.hid (fun k hk h => HR.out k hk (by omega))
      go_wp2_with fail
      go_roundw
      case rel => exact ⟨9, by omega, by omega, by go_num, by simp, T⟩
      case measure => simp [intOf]
    have hk : (j : Int) = 3 ∨ (j : Int) = 4 ∨ (j : Int) = 5 ∨ (j : Int) = 6 ∨ (j : Int) = 7 ∨ (j : Int) = 9 := by omega
    have HK := Lib.hid hk
    have h8i : ((j : Int) != 8) = true := by rw [bne_iff_ne]; omega
    have h8j : ((j : Int) == 8) = false := beq_eq_false_iff_ne.2 (by omega)
    clear hk
    by_cases hd : signB (j : Int) = t
    · have HF : Hid (kindOf t = (j : Int)) := Lib.hid (by rw [← hd]; exact kindOf_sign _ HK.out)
      have hss : (t.toList == t.toList) = true := by simp
      have HD := Lib.hid hd
      clear hd
      go_wp2_with fail
      refine (impl_termSign _ HK.out _).mono ?_
      rintro e w2 ⟨rfl, rfl⟩
      rw [HD.out]
      go_wp2_with fail
      go_ret
      exact ⟨by rw [HF.out]; rfl, rfl⟩
    · have T : Hid (∀ k : Int, (k = 3 ∨ k = 4 ∨ k = 5 ∨ k = 6 ∨ k = 7 ∨ k = 9) → k < ((j + 1 : Nat) : Int) → signB k ≠ t) := Lib.hid (fun k hk h => by
        rcases Int.lt_or_le k (j : Int) with h1 | h1
        · exact HR.out k hk h1
        · have : k = (j : Int) := by omega
          rw [this]; exact hd)
      have hss : ((signB (j : Int)).toList == t.toList) = false := by
        rw [beq_eq_false_iff_ne]
        intro e
        exact hd (str_ext (by rw [← Lib.toList_data, ← Lib.toList_data]; exact e))
      have hss2 : decide (signB (j : Int) = t) = false := decide_eq_false hd
      clear hd
      obtain ⟨X, hX⟩ : ∃ X, signB (j : Int) = X := ⟨_, rfl⟩
      have HX := Lib.hid hX
      rw [hX] at hss hss2
      clear hX
      go_wp2_with fail
      refine (impl_termSign _ HK.out _).mono ?_
      rintro e w2 ⟨rfl, rfl⟩
      rw [HX.out]
      go_wp2_with fail
      go_roundw
      case rel => exact ⟨j + 1, by omega, by omega, by go_num, by simp, T⟩
      case measure => simp [intOf]; omega
end Go.Proofs.YtdanlgmpgdipnaaDoor
