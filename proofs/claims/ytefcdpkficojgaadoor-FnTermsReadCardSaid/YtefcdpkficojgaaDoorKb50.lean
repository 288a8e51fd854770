/- Several texts in one: RdSTop, LwSame. -/
import Derived.Test.YtefcdpkficojgaaDoorKb49
import Derived.Test.YtefcdpkficojgaaDoorKb45
import Derived.Test.YtefcdpkficojgaaDoorKb17
namespace Go.Proofs.YtefcdpkficojgaaDoor
open Go.RowKit
set_option linter.unusedVariables false


theorem two_cells {w : World} {g : Nat} {a b : Value} {T : TypeId} (h : w.heap[g]? = some (.cells #[a, b] T (0, 0))) (x y : Value) : (((w.setCell ⟨g, 0, none⟩ x).setCell ⟨g, 1, none⟩ y).drew).heap[g]? = some (.cells #[x, y] T (0, 0)) := by
  show ((w.setCell ⟨g, 0, none⟩ x).setCell ⟨g, 1, none⟩ y).heap[g]? = _
  simp [World.setCell, Array.getElem?_modify, h]
set_option maxHeartbeats 3200000 in
set_option maxRecDepth 100000 in
theorem impl_ReadStmts (s : ByteArray) (W0 : World) (tab : TabW W0) :
    Calls Tryd.prog 32 #[.string s] W0 fun e w' => ∃ A c, e = .returned (.tuple #[.slice A (readS s).1.length c, .agg #[.int .i64 (readS s).2.1, .int .i64 (readS s).2.2]]) ∧ (readS s).1.length ≤ c ∧ c ≤ maxLen ∧ StRowO w' (Made W0 w') A (readS s).1 ∧ Below W0.heap.size W0 w' := by
  have TB := Lib.hid tab
  clear tab
  go_enter Tryd.func32, Tryd.ntmps32
  go_wp2_with fail
  have BA : Below W0.heap.size W0 (W0.alloc (.cells #[.int .i64 0, .int .i64 0] 26)) := (by repeat' (first | exact Below.refl _ _ | exact Nat.le_refl _ | (refine Below.alloc ?_ ?_ _) | (refine Below.setCell ?_ ?_ _) | (refine Below.drew ?_) | (refine below_drewN ?_ _) | assumption | (simp; done) | (simp; omega)))
  refine (impl_newReader s _ (TB.out.below BA)).mono ?_
  rintro e w1 ⟨rb, A, c, rfl, hrb, b1, hcell, hrd, hoff, hlc⟩
  have BA2 := Lib.hid (BA.trans (b1.mono BA.size))
  have HG1 : Hid (w1.heap[W0.heap.size]? = some (.cells #[.int .i64 0, .int .i64 0] 26 (0, 0))) := Lib.hid ((b1.block _ (by simp)).trans (heap_alloc_new _ _))
  have hrb2 : W0.heap.size + 1 ≤ rb := by simpa using hrb
  have hlt1 := lt_of_block hcell
  obtain ⟨g1, hg1⟩ : ∃ g, W0.heap.size = g := ⟨_, rfl⟩
  have hg1' : W0.heap.size ≤ g1 := by omega
  have hn1 : ¬ g1 = rb := by omega
  have hn3 : ¬ rb = g1 := by omega
  have hrl : W0.heap.size ≤ rb := by omega
  rw [hg1] at HG1 ⊢
  have HGG : Hid (W0.heap.size = g1) := Lib.hid hg1
  have hgr : g1 < rb := by omega
  clear hg1 BA hrb hrb2
  obtain ⟨fpn, hfpn⟩ := lexR_pos s
  by_cases hf : (lexR s).2.1 = 0
  · obtain ⟨hs6, hf2, hL6⟩ := lexR_ok hf
    have R1 : Hid (RdAt w1 rb A c s.size 0 (lexR s).1 0 0) := Lib.hid ⟨by rw [hf, hf2] at hcell; exact hcell, hrd, fun b o e => by have := hoff b o e; omega, by omega, hs6, hL6, hlc⟩
    have HOF : Hid (∀ b o, A = some ⟨b, o, none⟩ → b < rb) := Lib.hid hoff
    have HF := Lib.hid hf
    have HE := Lib.hid (endS_chk (lexR s).1 s.size (rdS (lexR s).1 s.size 6 0 60))
    obtain ⟨L, hL⟩ : ∃ L, (lexR s).1 = L := ⟨_, rfl⟩
    have HL := Lib.hid hL
    rw [hL] at R1 HE
    have p3 := R1.out.cs.2.2.2.1
    clear hfpn hf hf2 hcell hrd hoff hlc hL6 b1 hL
    have MA : Hid (ManyAt (w1.alloc (.cells #[.int .i64 0] 3)) w1.heap.size 0) := Lib.hid (heap_alloc_new _ _)
    have BB : Hid (Below W0.heap.size W0 (w1.alloc (.cells #[.int .i64 0] 3))) := Lib.hid (BA2.out.alloc BA2.out.size _)
    have RB := Lib.hid (R1.out.below (Below.alloc (Below.refl w1.heap.size w1) (Nat.le_refl _) (.cells #[.int .i64 0] 3)))
    have HG2 : Hid ((w1.alloc (.cells #[.int .i64 0] 3)).heap[g1]? = some (.cells #[.int .i64 0, .int .i64 0] 26 (0, 0))) := Lib.hid ((heap_alloc_lt (lt_of_block HG1.out)).trans HG1.out)
    go_wp2_with fail
    obtain ⟨wa, hwa⟩ : ∃ wa, w1.alloc (.cells #[.int .i64 0] 3) = wa := ⟨_, rfl⟩
    have hza : wa.heap.size = w1.heap.size + 1 := by rw [← hwa]; simp
    rw [hwa] at MA BB RB HG2 ⊢
    obtain ⟨mb, hmb⟩ : ∃ mb, w1.heap.size = mb := ⟨_, rfl⟩
    rw [hmb] at MA ⊢
    have EV : Hid (EnvR W0 wa rb mb A c s.size 0 L 0) := Lib.hid ⟨TB.out, BB.out, hrl, by omega, fun b o e => by have := HOF.out b o e; omega, by omega, RB.out, MA.out⟩
    have hmr : g1 < mb := by omega
    have hlm : mb < wa.heap.size := by omega
    have hrm : rb < mb := by omega
    clear hwa HG1 p3 R1 hlt1
    refine (rd_stmts_all 6 (Nat.le_refl _) 0 W0 wa rb mb A c s.size 0 L 0 60 (by decide) EV.out rfl).mono ?_
    intro e w2 hret
    have HX : Hid (readS s = match endS L s.size (chkG L s.size (rdS L s.size 6 0 60)) with
      | .bad c p => ([], c, (p : Int))
      | .ok l q => (l, 0, 0)) := Lib.hid (by unfold readS; rw [if_pos HF.out, HL.out, HE.out]; first | done | rfl)
    clear HE
    generalize chkG L s.size (rdS L s.size 6 0 60) = g at *
    cases g with
    | bad fc fp =>
      obtain ⟨k2, q, m', rfl, r2, _⟩ := hret
      have F : Hid (readS s = ([], fc, (fp : Int))) := Lib.hid HX.out
      have HG1 : Hid (w2.heap[g1]? = some (.cells #[.int .i64 0, .int .i64 0] 26 (0, 0))) := Lib.hid ((k2.block g1 (by omega) ⟨hn1, by omega⟩).trans HG2.out)
      have B2 : Hid (Below W0.heap.size W0 w2) := Lib.hid (KeepM.base k2 BB.out hrl (by omega))
      have p3 := r2.cs.2.2.2.1
      have p4 := r2.cs.2.2.2.2
      clear k2 r2 HG2 HX
      have hrb2 : rb < w2.heap.size := cell_lt p3
      have d0 := Lib.frozen_of_heap HG1.out 0
      have d1 := Lib.frozen_of_heap HG1.out 1
      have e0 : w2.cell? ⟨g1, 0, none⟩ = some (.int .i64 0) := by rw [Lib.cell_of_heap HG1.out]; rfl
      have e1 : w2.cell? ⟨g1, 1, none⟩ = some (.int .i64 0) := by rw [Lib.cell_of_heap HG1.out]; rfl
      have hz1 := lt_of_block HG1.out
      go_upto_region 7 with fail
      go_region_held3 (fun w' => w'.cell? ⟨rb, 3, none⟩ = some (.int .i64 fc) ∧ w'.cell? ⟨rb, 4, none⟩ = some (.int .i64 (fp : Int)) ∧ w'.frozen? ⟨g1, 0, none⟩ = false ∧ w'.frozen? ⟨g1, 1, none⟩ = false)
        (first | (refine ⟨?_, ?_, ?_, ?_⟩ <;> first | (with_reducible assumption) | (simp [World.cell?_setCell_other, hn1, hn3, p3, p4, d0, d1]; done)) | go_keep)
        (first | fail)
      obtain ⟨W, hW⟩ : ∃ W, (((w2.setCell ⟨g1, 0, none⟩ (.int .i64 fc)).setCell ⟨g1, 1, none⟩ (.int .i64 (fp : Int))).drew) = W := ⟨_, rfl⟩
      have hts : (((w2.setCell ⟨g1, 0, none⟩ (.int .i64 fc)).setCell ⟨g1, 1, none⟩ (.int .i64 (fp : Int))).drew).heap[g1]? = some (.cells #[.int .i64 fc, .int .i64 (fp : Int)] 26 (0, 0)) := two_cells HG1.out _ _
      have hbl : Below W0.heap.size W0 (((w2.setCell ⟨g1, 0, none⟩ (.int .i64 fc)).setCell ⟨g1, 1, none⟩ (.int .i64 (fp : Int))).drew) := ((B2.out.setCell (p := ⟨g1, 0, none⟩) hg1' _).setCell (p := ⟨g1, 1, none⟩) hg1' _).drew
      rw [hW] at hts hbl ⊢
      have y4 : W.cell? ⟨g1, 0, none⟩ = some (.int .i64 fc) := by rw [Lib.cell_of_heap hts]; rfl
      have y5 : W.cell? ⟨g1, 1, none⟩ = some (.int .i64 (fp : Int)) := by rw [Lib.cell_of_heap hts]; rfl
      clear d0 d1 e0 e1 p3 p4 hts hW
      go_wp2_with fail
      refine bodyPost_ret (v := .tuple #[.slice none 0 0, .agg #[.int .i64 fc, .int .i64 (fp : Int)]]) (by simp [results, Tryd.results32, go_sem, y4, y5]) rfl ?_
      rw [F.out]
      exact ⟨none, 0, rfl, Nat.le_refl _, Nat.zero_le _, stRowO_nilR, hbl⟩
    | ok b q =>
      obtain ⟨l, lf⟩ := b
      obtain ⟨k2, A2, c2, m', rfl, hl1, hl2, row, r2, _, _⟩ := hret
      simp only at hl1 row
      have HG1 : Hid (w2.heap[g1]? = some (.cells #[.int .i64 0, .int .i64 0] 26 (0, 0))) := Lib.hid ((k2.block g1 (by omega) ⟨hn1, by omega⟩).trans HG2.out)
      have B2 : Hid (Below W0.heap.size W0 w2) := Lib.hid (KeepM.base k2 BB.out hrl (by omega))
      have S2 := k2.size
      have R2 := Lib.hid r2
      have RW := Lib.hid row
      clear k2 r2 row HG2
      go_wp2_with fail
      refine (rd_ended _ rb A c s.size q L 0 R2.out).mono ?_
      rintro e w4 ⟨k4, hret⟩
      have B4 : Hid (Below W0.heap.size W0 w4) := Lib.hid (KeepR.base k4 B2.out hrl)
      have HG3 : Hid (w4.heap[g1]? = some (.cells #[.int .i64 0, .int .i64 0] 26 (0, 0))) := Lib.hid ((k4.block g1 (by omega) hn1).trans HG1.out)
      have RW4 := Lib.hid (RW.out.keep fun b hb => k4.block b hb.2 (by have := hb.1; omega))
      have S4 := k4.size
      clear k4 HG1 RW
      rename Hid (w4.heap[g1]? = some (.cells #[.int .i64 0, .int .i64 0] 26 (0, 0))) => HG1
      rcases hret with ⟨hq, rfl, r4⟩ | ⟨hq, rfl, r4⟩
      · have F : Hid (readS s = (l, 0, 0)) := Lib.hid (by rw [HX.out, endS, bind_ok, if_neg hq])
        clear r4 hq HX
        have d0 := Lib.frozen_of_heap HG1.out 0
        have d1 := Lib.frozen_of_heap HG1.out 1
        have e0 : w4.cell? ⟨g1, 0, none⟩ = some (.int .i64 0) := by rw [Lib.cell_of_heap HG1.out]; rfl
        have e1 : w4.cell? ⟨g1, 1, none⟩ = some (.int .i64 0) := by rw [Lib.cell_of_heap HG1.out]; rfl
        have hz1 := lt_of_block HG1.out
        go_wp2_with fail
        obtain ⟨W, hW⟩ : ∃ W, (w4.setCell ⟨g1, 0, none⟩ (.int .i64 0)).setCell ⟨g1, 1, none⟩ (.int .i64 0) = W := ⟨_, rfl⟩
        have hts : ((w4.setCell ⟨g1, 0, none⟩ (.int .i64 0)).setCell ⟨g1, 1, none⟩ (.int .i64 0)).heap[g1]? = some (.cells #[.int .i64 0, .int .i64 0] 26 (0, 0)) := two_cells HG1.out _ _
        have hbl : Below W0.heap.size W0 ((w4.setCell ⟨g1, 0, none⟩ (.int .i64 0)).setCell ⟨g1, 1, none⟩ (.int .i64 0)) := ((B4.out.setCell (p := ⟨g1, 0, none⟩) hg1' _).setCell (p := ⟨g1, 1, none⟩) hg1' _)
        have RWW : StRowO ((w4.setCell ⟨g1, 0, none⟩ (.int .i64 0)).setCell ⟨g1, 1, none⟩ (.int .i64 0)) (Made W0 ((w4.setCell ⟨g1, 0, none⟩ (.int .i64 0)).setCell ⟨g1, 1, none⟩ (.int .i64 0))) A2 l :=
          ((RW4.out.set (p := ⟨g1, 0, none⟩) (fun h => by have h1 : wa.heap.size ≤ g1 := h.1; omega) _).set (p := ⟨g1, 1, none⟩) (fun h => by have h1 : wa.heap.size ≤ g1 := h.1; omega) _).sub (fun b hb => ⟨by have := hb.1; omega, by have := hb.2; simp; omega⟩)
        rw [hW] at hts hbl RWW ⊢
        have y4 : W.cell? ⟨g1, 0, none⟩ = some (.int .i64 0) := by rw [Lib.cell_of_heap hts]; rfl
        have y5 : W.cell? ⟨g1, 1, none⟩ = some (.int .i64 0) := by rw [Lib.cell_of_heap hts]; rfl
        clear d0 d1 e0 e1 hts hW
        refine bodyPost_ret (v := .tuple #[.slice A2 l.length c2, .agg #[.int .i64 0, .int .i64 0]]) (by simp [results, Tryd.results32, go_sem, y4, y5]) rfl ?_
        rw [F.out]
        exact ⟨A2, c2, rfl, hl1, hl2, RWW, hbl⟩
      · have F : Hid (readS s = ([], 3, (posAt L s.size q : Int))) := Lib.hid (by rw [HX.out, endS, bind_ok, if_pos hq])
        have p3 := r4.cs.2.2.2.1
        have p4 := r4.cs.2.2.2.2
        obtain ⟨PP, hPP⟩ : ∃ PP, posAt L s.size q = PP := ⟨_, rfl⟩
        rw [hPP] at F p4
        clear r4 hq hPP HX
        have hrb2 : rb < w4.heap.size := cell_lt p3
        have d0 := Lib.frozen_of_heap HG1.out 0
        have d1 := Lib.frozen_of_heap HG1.out 1
        have e0 : w4.cell? ⟨g1, 0, none⟩ = some (.int .i64 0) := by rw [Lib.cell_of_heap HG1.out]; rfl
        have e1 : w4.cell? ⟨g1, 1, none⟩ = some (.int .i64 0) := by rw [Lib.cell_of_heap HG1.out]; rfl
        have hz1 := lt_of_block HG1.out
        go_upto_region 7 with fail
        go_region_held3 (fun w' => w'.cell? ⟨rb, 3, none⟩ = some (.int .i64 3) ∧ w'.cell? ⟨rb, 4, none⟩ = some (.int .i64 (PP : Int)) ∧ w'.frozen? ⟨g1, 0, none⟩ = false ∧ w'.frozen? ⟨g1, 1, none⟩ = false)
          (first | (refine ⟨?_, ?_, ?_, ?_⟩ <;> first | (with_reducible assumption) | (simp [World.cell?_setCell_other, hn1, hn3, p3, p4, d0, d1]; done)) | go_keep)
          (first | fail)
        obtain ⟨W, hW⟩ : ∃ W, (((w4.setCell ⟨g1, 0, none⟩ (.int .i64 3)).setCell ⟨g1, 1, none⟩ (.int .i64 (PP : Int))).drew) = W := ⟨_, rfl⟩
        have hts : (((w4.setCell ⟨g1, 0, none⟩ (.int .i64 3)).setCell ⟨g1, 1, none⟩ (.int .i64 (PP : Int))).drew).heap[g1]? = some (.cells #[.int .i64 3, .int .i64 (PP : Int)] 26 (0, 0)) := two_cells HG1.out _ _
        have hbl : Below W0.heap.size W0 (((w4.setCell ⟨g1, 0, none⟩ (.int .i64 3)).setCell ⟨g1, 1, none⟩ (.int .i64 (PP : Int))).drew) := ((B4.out.setCell (p := ⟨g1, 0, none⟩) hg1' _).setCell (p := ⟨g1, 1, none⟩) hg1' _).drew
        rw [hW] at hts hbl ⊢
        have y4 : W.cell? ⟨g1, 0, none⟩ = some (.int .i64 3) := by rw [Lib.cell_of_heap hts]; rfl
        have y5 : W.cell? ⟨g1, 1, none⟩ = some (.int .i64 (PP : Int)) := by rw [Lib.cell_of_heap hts]; rfl
        clear d0 d1 e0 e1 p3 p4 hts hW
        go_wp2_with fail
        refine bodyPost_ret (v := .tuple #[.slice none 0 0, .agg #[.int .i64 3, .int .i64 (PP : Int)]]) (by simp [results, Tryd.results32, go_sem, y4, y5]) rfl ?_
        rw [F.out]
        exact ⟨none, 0, rfl, Nat.le_refl _, Nat.zero_le _, stRowO_nilR, hbl⟩
  · have F := Lib.hid (readS_lex hf)
    have hfb : ((lexR s).2.1 != 0) = true := by rw [bne_iff_ne]; exact hf
    have hfb2 : ((lexR s).2.1 == 0) = false := beq_eq_false_iff_ne.2 hf
    have p3 : w1.cell? ⟨rb, 3, none⟩ = some (.int .i64 (lexR s).2.1) := by rw [Lib.cell_of_heap hcell]; rfl
    have p4 : w1.cell? ⟨rb, 4, none⟩ = some (.int .i64 (lexR s).2.2) := by rw [Lib.cell_of_heap hcell]; rfl
    clear hfpn hf hcell hrd hoff hlc b1
    obtain ⟨fc, hfc⟩ : ∃ x, (lexR s).2.1 = x := ⟨_, rfl⟩
    obtain ⟨fp, hfp⟩ : ∃ x, (lexR s).2.2 = x := ⟨_, rfl⟩
    rw [hfc] at F hfb hfb2 p3
    rw [hfp] at F p4
    clear hfc hfp
    have d0 := Lib.frozen_of_heap HG1.out 0
    have d1 := Lib.frozen_of_heap HG1.out 1
    have e0 : w1.cell? ⟨g1, 0, none⟩ = some (.int .i64 0) := by rw [Lib.cell_of_heap HG1.out]; rfl
    have e1 : w1.cell? ⟨g1, 1, none⟩ = some (.int .i64 0) := by rw [Lib.cell_of_heap HG1.out]; rfl
    have hz1 := lt_of_block HG1.out
    go_upto_region 3 with fail
    go_region_held3 (fun w' => w'.cell? ⟨rb, 3, none⟩ = some (.int .i64 fc) ∧ w'.cell? ⟨rb, 4, none⟩ = some (.int .i64 fp) ∧ w'.frozen? ⟨g1, 0, none⟩ = false ∧ w'.frozen? ⟨g1, 1, none⟩ = false)
      (first | (refine ⟨?_, ?_, ?_, ?_⟩ <;> first | (with_reducible assumption) | (simp [World.cell?_setCell_other, hn1, hn3, p3, p4, d0, d1]; done)) | go_keep)
      (first | fail)
    obtain ⟨W, hW⟩ : ∃ W, (((w1.setCell ⟨g1, 0, none⟩ (.int .i64 fc)).setCell ⟨g1, 1, none⟩ (.int .i64 fp)).drew) = W := ⟨_, rfl⟩
    have hts : (((w1.setCell ⟨g1, 0, none⟩ (.int .i64 fc)).setCell ⟨g1, 1, none⟩ (.int .i64 fp)).drew).heap[g1]? = some (.cells #[.int .i64 fc, .int .i64 fp] 26 (0, 0)) := two_cells HG1.out _ _
    have hbl : Below W0.heap.size W0 (((w1.setCell ⟨g1, 0, none⟩ (.int .i64 fc)).setCell ⟨g1, 1, none⟩ (.int .i64 fp)).drew) := ((BA2.out.setCell (p := ⟨g1, 0, none⟩) hg1' _).setCell (p := ⟨g1, 1, none⟩) hg1' _).drew
    rw [hW] at hts hbl ⊢
    have y4 : W.cell? ⟨g1, 0, none⟩ = some (.int .i64 fc) := by rw [Lib.cell_of_heap hts]; rfl
    have y5 : W.cell? ⟨g1, 1, none⟩ = some (.int .i64 fp) := by rw [Lib.cell_of_heap hts]; rfl
    clear d0 d1 e0 e1 p3 p4 hts hW
    go_wp2_with fail
    refine bodyPost_ret (v := .tuple #[.slice none 0 0, .agg #[.int .i64 fc, .int .i64 fp]]) (by simp [results, Tryd.results32, go_sem, y4, y5]) rfl ?_
    rw [F.out]
    exact ⟨none, 0, rfl, Nat.le_refl _, Nat.zero_le _, stRowO_nilR, hbl⟩

abbrev LyC (t : Tm) : Prop := ∀ (k n : Int) (s : ByteArray) (A : Option Addr) (m c : Nat) (k' n' : Int) (s' : ByteArray) (A' : Option Addr) (m' c' : Nat) (w : World), TmIs AnyB w [.int .i64 k, .int .i64 n, .string s, .slice A m c] t → TmIs AnyB w [.int .i64 k', .int .i64 n', .string s', .slice A' m' c'] t →
  Calls Tryd.prog 42 #[.agg #[.int .i64 k, .int .i64 n, .string s, .slice A m c], .agg #[.int .i64 k', .int .i64 n', .string s', .slice A' m' c']] w fun e w' => e = .returned (.bool true) ∧ Below w.heap.size w w'
abbrev LzC (g : St) : Prop := ∀ (x y : V8) (w : World), StIs AnyB w x g → StIs AnyB w y g →
  Calls Tryd.prog 104 #[.agg #[.int .i64 x.k, .string x.s, .int .i64 x.tk, .int .i64 x.tn, .string x.ts, .slice x.tA x.tm x.tc, .slice x.bA x.bm x.bc, .slice x.eA x.em x.ec], .agg #[.int .i64 y.k, .string y.s, .int .i64 y.tk, .int .i64 y.tn, .string y.ts, .slice y.tA y.tm y.tc, .slice y.bA y.bm y.bc, .slice y.eA y.em y.ec]] w fun e w' => e = .returned (.bool true) ∧ Below w.heap.size w w'
set_option maxHeartbeats 1600000 in
set_option maxRecDepth 100000 in
theorem laws_sameTerms (ss : List Tm) (ih : ∀ t ∈ ss, LyC t) (A A' : Option Addr) (c c' : Nat) (w : World) (row : TmRow AnyB w A ss) (row' : TmRow AnyB w A' ss) (hl : ss.length ≤ c) (hl' : ss.length ≤ c') (hc : c ≤ maxLen) (hc' : c' ≤ maxLen) :
    Calls Tryd.prog 103 #[.slice A ss.length c, .slice A' ss.length c'] w fun e w' => e = .returned (.bool true) ∧ Below w.heap.size w w' := by
  unfold maxLen at hc hc'
  have IH := Lib.hid ih
  have RW := Lib.hid row
  have RW' := Lib.hid row'
  clear ih row row'
  have g1 : ((ss.length : Int) != (ss.length : Int)) = false := by simp
  go_enter Tryd.func103, Tryd.ntmps103
  go_wp2_with fail
  go_loopw [5] (fun i wr => ∃ k : Nat, k ≤ ss.length ∧ i = .int .i64 k ∧ Below w.heap.size w wr) (fun i _ => ss.length - (intOf i).toNat)
  case atStart => exact ⟨0, Nat.zero_le _, rfl, Below.refl _ _⟩
  case round =>
    obtain ⟨k, hk, rfl, hb⟩ := hrel
    have HB := Lib.hid hb
    clear hb
    by_cases hlt : k < ss.length
    · obtain ⟨b, off, k1, n1, s1, A1, m1, c1, rfl, _, d0, d1, d2, d3, ht⟩ := rd_term (RW.out.belowA HB.out) hlt
      obtain ⟨b', off', k2, n2, s2, A2, m2, c2, rfl, _, e0, e1, e2, e3, ht'⟩ := rd_term (RW'.out.belowA HB.out) hlt
      have T1 := Lib.hid ht
      have T2 := Lib.hid ht'
      clear ht ht'
      have h0k : (0 : Int) ≤ (k : Int) := by omega
      have h1k : (k : Int) < (ss.length : Int) := by omega
      go_wp2_with fail
      refine wp_region_later (by kernel_rfl) (by kernel_rfl) ?_
      intro gw hgw hcw
      have HG := Lib.hid hgw
      have HC := Lib.hid hcw
      clear hgw hcw
      have p0 : ∀ m', (gw m').cell? ⟨b, off + k * 4, none⟩ = some (.int .i64 k1) := fun m' => cell_keep (HG.out m') d0
      have p1 : ∀ m', (gw m').cell? ⟨b, off + k * 4 + 1, none⟩ = some (.int .i64 n1) := fun m' => cell_keep (HG.out m') d1
      have p2 : ∀ m', (gw m').cell? ⟨b, off + k * 4 + 2, none⟩ = some (.string s1) := fun m' => cell_keep (HG.out m') d2
      have p3 : ∀ m', (gw m').cell? ⟨b, off + k * 4 + 3, none⟩ = some (.slice A1 m1 c1) := fun m' => cell_keep (HG.out m') d3
      have q0 : ∀ m', (gw m').cell? ⟨b', off' + k * 4, none⟩ = some (.int .i64 k2) := fun m' => cell_keep (HG.out m') e0
      have q1 : ∀ m', (gw m').cell? ⟨b', off' + k * 4 + 1, none⟩ = some (.int .i64 n2) := fun m' => cell_keep (HG.out m') e1
      have q2 : ∀ m', (gw m').cell? ⟨b', off' + k * 4 + 2, none⟩ = some (.string s2) := fun m' => cell_keep (HG.out m') e2
      have q3 : ∀ m', (gw m').cell? ⟨b', off' + k * 4 + 3, none⟩ = some (.slice A2 m2 c2) := fun m' => cell_keep (HG.out m') e3
      repeat (go_big_quiet_step ((first | (go_at_call 42; exact later_of HC (IH.out _ (List.getElem_mem hlt) k1 n1 s1 A1 m1 c1 k2 n2 s2 A2 m2 c2 _ (T1.out.belowA (HG.out _)) (T2.out.belowA (HG.out _)))))))
      refine wpQuiet_nil ?_
      intro _ hw'
      obtain ⟨nq, hw''⟩ := hw'
      subst hw''
      go_wp2_with fail
      go_roundw
      case rel => exact ⟨k + 1, by omega, by go_num, HB.out.trans ((HG.out _).mono HB.out.size)⟩
      case measure => simp [intOf]; omega
    · go_wp2_with fail
      go_ret
      exact ⟨rfl, HB.out⟩
set_option maxHeartbeats 1600000 in
set_option maxRecDepth 100000 in
theorem laws_sameTerm (t : Tm) : LyC t := by
  induction hN : nodes t using Nat.strongRecOn generalizing t with
  | ind N ih =>
    intro k n s A m c k' n' s' A' m' c' w ht ht'
    obtain ⟨kids, rfl, rfl, hl, hc, _, _, hs, row⟩ := ht.inv
    obtain ⟨kids', e, rfl, hl', hc', _, _, hs', row'⟩ := ht'.inv
    injection e with e1 e2 e3 e4
    subst e1 e2 e3 e4
    have IH : Hid (∀ x ∈ kids, LyC x) := Lib.hid fun x hx => ih (nodes x) (by rw [← hN]; exact kid_lt hx) x rfl
    have RW := Lib.hid row
    have RW' := Lib.hid row'
    have q : (s.toList == s.toList) = true := by simp
    clear ih hN ht row ht' row'
    go_enter Tryd.func42, Tryd.ntmps42
    go_wp2_with fail
    refine (laws_sameTerms kids IH.out A A' c c' _ (RW.out.belowA (by repeat' (first | exact Below.refl _ _ | exact Nat.le_refl _ | (refine Below.alloc ?_ ?_ _) | (refine Below.setCell ?_ ?_ _) | (refine Below.drew ?_) | (refine below_drewN ?_ _) | assumption | (simp; done) | (simp; omega)))) (RW'.out.belowA (by repeat' (first | exact Below.refl _ _ | exact Nat.le_refl _ | (refine Below.alloc ?_ ?_ _) | (refine Below.setCell ?_ ?_ _) | (refine Below.drew ?_) | (refine below_drewN ?_ _) | assumption | (simp; done) | (simp; omega)))) hl hl' hc hc').mono ?_
    rintro e w1 ⟨rfl, b1⟩
    have B1 : Below w.heap.size w w1 := Below.trans (by repeat' (first | exact Below.refl _ _ | exact Nat.le_refl _ | (refine Below.alloc ?_ ?_ _) | (refine Below.setCell ?_ ?_ _) | (refine Below.drew ?_) | (refine below_drewN ?_ _) | assumption | (simp; done) | (simp; omega))) (b1.mono (by simp; omega))
    have H1 := Lib.hid B1
    clear b1 B1
    go_wp2_with fail
    go_ret
    exact ⟨rfl, H1.out⟩
set_option maxHeartbeats 1600000 in
set_option maxRecDepth 100000 in
theorem laws_sameStmts (ss : List St) (ih : ∀ t ∈ ss, LzC t) (A A' : Option Addr) (c c' : Nat) (w : World) (row : StRow AnyB w A ss) (row' : StRow AnyB w A' ss) (hl : ss.length ≤ c) (hl' : ss.length ≤ c') (hc : c ≤ maxLen) (hc' : c' ≤ maxLen) :
    Calls Tryd.prog 43 #[.slice A ss.length c, .slice A' ss.length c'] w fun e w' => e = .returned (.bool true) ∧ Below w.heap.size w w' := by
  unfold maxLen at hc hc'
  have IH := Lib.hid ih
  have RW := Lib.hid row
  have RW' := Lib.hid row'
  clear ih row row'
  have g1 : ((ss.length : Int) != (ss.length : Int)) = false := by simp
  go_enter Tryd.func43, Tryd.ntmps43
  go_wp2_with fail
  go_loopw [5] (fun i wr => ∃ k : Nat, k ≤ ss.length ∧ i = .int .i64 k ∧ Below w.heap.size w wr) (fun i _ => ss.length - (intOf i).toNat)
  case atStart => exact ⟨0, Nat.zero_le _, rfl, Below.refl _ _⟩
  case round =>
    obtain ⟨k, hk, rfl, hb⟩ := hrel
    have HB := Lib.hid hb
    clear hb
    by_cases hlt : k < ss.length
    · obtain ⟨b, off, x, rfl, _, ⟨d0, d1, d2, d3, d4, d5, d6, d7⟩, ht⟩ := rd_stmt (RW.out.belowA HB.out) hlt
      obtain ⟨b', off', y, rfl, _, ⟨e0, e1, e2, e3, e4, e5, e6, e7⟩, ht'⟩ := rd_stmt (RW'.out.belowA HB.out) hlt
      have T1 := Lib.hid ht
      have T2 := Lib.hid ht'
      clear ht ht'
      have h0k : (0 : Int) ≤ (k : Int) := by omega
      have h1k : (k : Int) < (ss.length : Int) := by omega
      go_wp2_with fail
      refine wp_region_later (by kernel_rfl) (by kernel_rfl) ?_
      intro gw hgw hcw
      have HG := Lib.hid hgw
      have HC := Lib.hid hcw
      clear hgw hcw
      have p0 : ∀ m', (gw m').cell? ⟨b, off + k * 8, none⟩ = some (.int .i64 x.k) := fun m' => cell_keep (HG.out m') d0
      have p1 : ∀ m', (gw m').cell? ⟨b, off + k * 8 + 1, none⟩ = some (.string x.s) := fun m' => cell_keep (HG.out m') d1
      have p2 : ∀ m', (gw m').cell? ⟨b, off + k * 8 + 2, none⟩ = some (.int .i64 x.tk) := fun m' => cell_keep (HG.out m') d2
      have p3 : ∀ m', (gw m').cell? ⟨b, off + k * 8 + 3, none⟩ = some (.int .i64 x.tn) := fun m' => cell_keep (HG.out m') d3
      have p4 : ∀ m', (gw m').cell? ⟨b, off + k * 8 + 4, none⟩ = some (.string x.ts) := fun m' => cell_keep (HG.out m') d4
      have p5 : ∀ m', (gw m').cell? ⟨b, off + k * 8 + 5, none⟩ = some (.slice x.tA x.tm x.tc) := fun m' => cell_keep (HG.out m') d5
      have p6 : ∀ m', (gw m').cell? ⟨b, off + k * 8 + 6, none⟩ = some (.slice x.bA x.bm x.bc) := fun m' => cell_keep (HG.out m') d6
      have p7 : ∀ m', (gw m').cell? ⟨b, off + k * 8 + 7, none⟩ = some (.slice x.eA x.em x.ec) := fun m' => cell_keep (HG.out m') d7
      have q0 : ∀ m', (gw m').cell? ⟨b', off' + k * 8, none⟩ = some (.int .i64 y.k) := fun m' => cell_keep (HG.out m') e0
      have q1 : ∀ m', (gw m').cell? ⟨b', off' + k * 8 + 1, none⟩ = some (.string y.s) := fun m' => cell_keep (HG.out m') e1
      have q2 : ∀ m', (gw m').cell? ⟨b', off' + k * 8 + 2, none⟩ = some (.int .i64 y.tk) := fun m' => cell_keep (HG.out m') e2
      have q3 : ∀ m', (gw m').cell? ⟨b', off' + k * 8 + 3, none⟩ = some (.int .i64 y.tn) := fun m' => cell_keep (HG.out m') e3
      have q4 : ∀ m', (gw m').cell? ⟨b', off' + k * 8 + 4, none⟩ = some (.string y.ts) := fun m' => cell_keep (HG.out m') e4
      have q5 : ∀ m', (gw m').cell? ⟨b', off' + k * 8 + 5, none⟩ = some (.slice y.tA y.tm y.tc) := fun m' => cell_keep (HG.out m') e5
      have q6 : ∀ m', (gw m').cell? ⟨b', off' + k * 8 + 6, none⟩ = some (.slice y.bA y.bm y.bc) := fun m' => cell_keep (HG.out m') e6
      have q7 : ∀ m', (gw m').cell? ⟨b', off' + k * 8 + 7, none⟩ = some (.slice y.eA y.em y.ec) := fun m' => cell_keep (HG.out m') e7
      repeat (go_big_quiet_step ((first | (go_at_call 104; exact later_of HC (IH.out _ (List.getElem_mem hlt) x y _ (T1.out.belowA (HG.out _)) (T2.out.belowA (HG.out _)))))))
      refine wpQuiet_nil ?_
      intro _ hw'
      obtain ⟨nq, hw''⟩ := hw'
      subst hw''
      go_wp2_with fail
      go_roundw
      case rel => exact ⟨k + 1, by omega, by go_num, HB.out.trans ((HG.out _).mono HB.out.size)⟩
      case measure => simp [intOf]; omega
    · go_wp2_with fail
      go_ret
      exact ⟨rfl, HB.out⟩
set_option maxHeartbeats 1600000 in
set_option maxRecDepth 100000 in
theorem laws_sameStmt (g : St) : LzC g := by
  induction hN : snodes g using Nat.strongRecOn generalizing g with
  | ind N ih =>
    intro x y w hg hh
    obtain ⟨t, body, els, rfl, _, _, ht, hb1, hb2, hb3, rb, he1, he2, he3, re⟩ := hg.inv
    obtain ⟨t', body', els', e, _, _, ht', hb1', hb2', hb3', rb', he1', he2', he3', re'⟩ := hh.inv
    obtain ⟨k, s, tk, tn, ts, tA, tm, tc, bA, bm, bc, eA, em, ec⟩ := x
    obtain ⟨k', s', tk', tn', ts', tA', tm', tc', bA', bm', bc', eA', em', ec'⟩ := y
    injection e with e1 e2 e3 e4 e5
    simp only at e1 e2
    subst e1 e2 e3 e4 e5
    have IB : Hid (∀ y ∈ body, LzC y) := Lib.hid fun y hy => ih (snodes y) (by rw [← hN]; exact body_lt hy) y rfl
    have IE : Hid (∀ y ∈ els, LzC y) := Lib.hid fun y hy => ih (snodes y) (by rw [← hN]; exact else_lt hy) y rfl
    have HT := Lib.hid ht
    have RB := Lib.hid rb
    have RE := Lib.hid re
    have HT' := Lib.hid ht'
    have RB' := Lib.hid rb'
    have RE' := Lib.hid re'
    simp only at hb1 hb2 hb3 he1 he2 he3 RB RE hb1' hb2' hb3' he1' he2' he3' RB' RE'
    simp only
    subst hb1 he1 hb1' he1'
    have q : (s.toList == s.toList) = true := by simp
    clear ih hN hg hh ht rb re ht' rb' re'
    go_enter Tryd.func104, Tryd.ntmps104
    go_wp2_with fail
    refine (laws_sameTerm t tk tn ts tA tm tc tk' tn' ts' tA' tm' tc' _ (HT.out.belowA (by repeat' (first | exact Below.refl _ _ | exact Nat.le_refl _ | (refine Below.alloc ?_ ?_ _) | (refine Below.setCell ?_ ?_ _) | (refine Below.drew ?_) | (refine below_drewN ?_ _) | assumption | (simp; done) | (simp; omega)))) (HT'.out.belowA (by repeat' (first | exact Below.refl _ _ | exact Nat.le_refl _ | (refine Below.alloc ?_ ?_ _) | (refine Below.setCell ?_ ?_ _) | (refine Below.drew ?_) | (refine below_drewN ?_ _) | assumption | (simp; done) | (simp; omega))))).mono ?_
    rintro e w1 ⟨rfl, b1⟩
    have H1 : Hid (Below w.heap.size w w1) := Lib.hid (Below.trans (by repeat' (first | exact Below.refl _ _ | exact Nat.le_refl _ | (refine Below.alloc ?_ ?_ _) | (refine Below.setCell ?_ ?_ _) | (refine Below.drew ?_) | (refine below_drewN ?_ _) | assumption | (simp; done) | (simp; omega))) (b1.mono (by simp; omega)))
    obtain ⟨hcell, hfree⟩ := old_cells b1
    simp only [World.size_alloc] at hcell hfree
    have hz1 := b1.size
    simp only [World.size_alloc] at hz1
    clear b1
    go_wp2_with fail
    refine (laws_sameStmts body IB.out bA bA' bc bc' _ (RB.out.belowA H1.out) (RB'.out.belowA H1.out) hb2 hb2' hb3 hb3').mono ?_
    rintro e w2 ⟨rfl, b2⟩
    have H2 := Lib.hid (below_then H1.out b2)
    have u7 : w2.cell? ⟨w.heap.size, 7, none⟩ = some (.slice eA els.length ec) := cell_keep b2 (by rw [hcell _ _ (by omega)]; simp [go_sem])
    have u8 : w2.cell? ⟨w.heap.size + 1, 7, none⟩ = some (.slice eA' els.length ec') := cell_keep b2 (by rw [hcell _ _ (by omega)]; simp [go_sem])
    clear b2
    go_wp2_with fail
    refine (laws_sameStmts els IE.out eA eA' ec ec' _ (RE.out.belowA H2.out) (RE'.out.belowA H2.out) he2 he2' he3 he3').mono ?_
    rintro e w3 ⟨rfl, b3⟩
    have H3 := Lib.hid (below_then H2.out b3)
    clear b3
    go_wp2_with fail
    go_ret
    exact ⟨rfl, H3.out⟩
end Go.Proofs.YtefcdpkficojgaaDoor
