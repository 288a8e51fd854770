/- Several texts in one: RdSTop. -/
import Derived.Test.YtefcdpkficojgaaDoorKc50
import Derived.Test.YtefcdpkficojgaaDoorKc47
namespace Go.Proofs.YtefcdpkficojgaaDoor
open Go.RowKit
set_option linter.unusedVariables false


theorem two_cells {w : World} {g : Nat} {a b : Value} {T : TypeId} (h : w.heap[g]? = some (.cells #[a, b] T (0, 0))) (x y : Value) : (((w.setCell ⟨g, 0, none⟩ x).setCell ⟨g, 1, none⟩ y).drew).heap[g]? = some (.cells #[x, y] T (0, 0)) := by
  show ((w.setCell ⟨g, 0, none⟩ x).setCell ⟨g, 1, none⟩ y).heap[g]? = _
  simp [World.setCell, Array.getElem?_modify, h]
set_option maxHeartbeats 3200000 in
set_option maxRecDepth 100000 in
theorem impl_ReadStmts (s : ByteArray) (W0 : World) (tab : TabW W0) :
    Calls Tryd.prog 32 #[.string s] W0 fun e w' => ∃ A c, e = .returned (.tuple #[.slice A (readS s).1.length c, .agg #[.int .i64 (readS s).2.1, .int .i64 (readS s).2.2]]) ∧ (readS s).1.length ≤ c ∧ c ≤ maxLen ∧ StRowO w' (Made W0 w') A (readS s).1 ∧ Below W0.heap.size W0 w' := by
  have TB := Lib.hid tab
  clear tab
  go_enter Tryd.func32, Tryd.ntmps32
  go_wp2_with fail
  have BA : Below W0.heap.size W0 (W0.alloc (.cells #[.int .i64 0, .int .i64 0] 26)) := (by repeat' (first | exact Below.refl _ _ | exact Nat.le_refl _ | (refine Below.alloc ?_ ?_ _) | (refine Below.setCell ?_ ?_ _) | (refine Below.drew ?_) | (refine below_drewN ?_ _) | assumption | (simp; done) | (simp; omega)))
  refine (impl_newReader s _ (TB.out.below BA)).mono ?_
  rintro e w1 ⟨rb, A, c, rfl, hrb, b1, hcell, hrd, hoff, hlc⟩
  have BA2 := Lib.hid (BA.trans (b1.mono BA.size))
  have HG1 : Hid (w1.heap[W0.heap.size]? = some (.cells #[.int .i64 0, .int .i64 0] 26 (0, 0))) := Lib.hid ((b1.block _ (by simp)).trans (heap_alloc_new _ _))
  have hrb2 : W0.heap.size + 1 ≤ rb := by simpa using hrb
  have hlt1 := lt_of_block hcell
  obtain ⟨g1, hg1⟩ : ∃ g, W0.heap.size = g := ⟨_, rfl⟩
  have hg1' : W0.heap.size ≤ g1 := by omega
  have hn1 : ¬ g1 = rb := by omega
  have hn3 : ¬ rb = g1 := by omega
  have hrl : W0.heap.size ≤ rb := by omega
  rw [hg1] at HG1 ⊢
  have HGG : Hid (W0.heap.size = g1) := Lib.hid hg1
  have hgr : g1 < rb := by omega
  clear hg1 BA hrb hrb2
  obtain ⟨fpn, hfpn⟩ := lexR_pos s
  by_cases hf : (lexR s).2.1 = 0
  · obtain ⟨hs6, hf2, hL6⟩ := lexR_ok hf
    have R1 : Hid (RdAt w1 rb A c s.size 0 (lexR s).1 0 0) := Lib.hid ⟨by rw [hf, hf2] at hcell; exact hcell, hrd, fun b o e => by have := hoff b o e; omega, by omega, hs6, hL6, hlc⟩
    have HOF : Hid (∀ b o, A = some ⟨b, o, none⟩ → b < rb) := Lib.hid hoff
    have HF := Lib.hid hf
    have HE := Lib.hid (endS_chk (lexR s).1 s.size (rdS (lexR s).1 s.size 6 0 60))
    obtain ⟨L, hL⟩ : ∃ L, (lexR s).1 = L := ⟨_, rfl⟩
    have HL := Lib.hid hL
    rw [hL] at R1 HE
    have p3 := R1.out.cs.2.2.2.1
    clear hfpn hf hf2 hcell hrd hoff hlc hL6 b1 hL
    have MA : Hid (ManyAt (w1.alloc (.cells #[.int .i64 0] 3)) w1.heap.size 0) := Lib.hid (heap_alloc_new _ _)
    have BB : Hid (Below W0.heap.size W0 (w1.alloc (.cells #[.int .i64 0] 3))) := Lib.hid (BA2.out.alloc BA2.out.size _)
    have RB := Lib.hid (R1.out.below (Below.alloc (Below.refl w1.heap.size w1) (Nat.le_refl _) (.cells #[.int .i64 0] 3)))
    have HG2 : Hid ((w1.alloc (.cells #[.int .i64 0] 3)).heap[g1]? = some (.cells #[.int .i64 0, .int .i64 0] 26 (0, 0))) := Lib.hid ((heap_alloc_lt (lt_of_block HG1.out)).trans HG1.out)
    go_wp2_with fail
    obtain ⟨wa, hwa⟩ : ∃ wa, w1.alloc (.cells #[.int .i64 0] 3) = wa := ⟨_, rfl⟩
    have hza : wa.heap.size = w1.heap.size + 1 := by rw [← hwa]; simp
    rw [hwa] at MA BB RB HG2 ⊢
    obtain ⟨mb, hmb⟩ : ∃ mb, w1.heap.size = mb := ⟨_, rfl⟩
    rw [hmb] at MA ⊢
    have EV : Hid (EnvR W0 wa rb mb A c s.size 0 L 0) := Lib.hid ⟨TB.out, BB.out, hrl, by omega, fun b o e => by have := HOF.out b o e; omega, by omega, RB.out, MA.out⟩
    have hmr : g1 < mb := by omega
    have hlm : mb < wa.heap.size := by omega
    have hrm : rb < mb := by omega
    clear hwa HG1 p3 R1 hlt1
    refine (rd_stmts_all 6 (Nat.le_refl _) 0 W0 wa rb mb A c s.size 0 L 0 60 (by decide) EV.out rfl).mono ?_
    intro e w2 hret
    have HX : Hid (readS s = match endS L s.size (chkG L s.size (rdS L s.size 6 0 60)) with
      | .bad c p => ([], c, (p : Int))
      | .ok l q => (l, 0, 0)) := Lib.hid (by unfold readS; rw [if_pos HF.out, HL.out, HE.out]; first | done | rfl)
    clear HE
    generalize chkG L s.size (rdS L s.size 6 0 60) = g at *
    cases g with
    | bad fc fp =>
      obtain ⟨k2, q, m', rfl, r2, _⟩ := hret
      have F : Hid (readS s = ([], fc, (fp : Int))) := Lib.hid HX.out
      have HG1 : Hid (w2.heap[g1]? = some (.cells #[.int .i64 0, .int .i64 0] 26 (0, 0))) := Lib.hid ((k2.block g1 (by omega) ⟨hn1, by omega⟩).trans HG2.out)
      have B2 : Hid (Below W0.heap.size W0 w2) := Lib.hid (KeepM.base k2 BB.out hrl (by omega))
      have p3 := r2.cs.2.2.2.1
      have p4 := r2.cs.2.2.2.2
      clear k2 r2 HG2 HX
      have hrb2 : rb < w2.heap.size := cell_lt p3
      have d0 := Lib.frozen_of_heap HG1.out 0
      have d1 := Lib.frozen_of_heap HG1.out 1
      have e0 : w2.cell? ⟨g1, 0, none⟩ = some (.int .i64 0) := by rw [Lib.cell_of_heap HG1.out]; rfl
      have e1 : w2.cell? ⟨g1, 1, none⟩ = some (.int .i64 0) := by rw [Lib.cell_of_heap HG1.out]; rfl
      have hz1 := lt_of_block HG1.out
      go_upto_region 7 with fail
      go_region_held3 (fun w' => w'.cell? ⟨rb, 3, none⟩ = some (.int .i64 fc) ∧ w'.cell? ⟨rb, 4, none⟩ = some (.int .i64 (fp : Int)) ∧ w'.frozen? ⟨g1, 0, none⟩ = false ∧ w'.frozen? ⟨g1, 1, none⟩ = false)
        (first | (refine ⟨?_, ?_, ?_, ?_⟩ <;> first | (with_reducible assumption) | (simp [World.cell?_setCell_other, hn1, hn3, p3, p4, d0, d1]; done)) | go_keep)
        (first | fail)
      obtain ⟨W, hW⟩ : ∃ W, (((w2.setCell ⟨g1, 0, none⟩ (.int .i64 fc)).setCell ⟨g1, 1, none⟩ (.int .i64 (fp : Int))).drew) = W := ⟨_, rfl⟩
      have hts : (((w2.setCell ⟨g1, 0, none⟩ (.int .i64 fc)).setCell ⟨g1, 1, none⟩ (.int .i64 (fp : Int))).drew).heap[g1]? = some (.cells #[.int .i64 fc, .int .i64 (fp : Int)] 26 (0, 0)) := two_cells HG1.out _ _
      have hbl : Below W0.heap.size W0 (((w2.setCell ⟨g1, 0, none⟩ (.int .i64 fc)).setCell ⟨g1, 1, none⟩ (.int .i64 (fp : Int))).drew) := ((B2.out.setCell (p := ⟨g1, 0, none⟩) hg1' _).setCell (p := ⟨g1, 1, none⟩) hg1' _).drew
      rw [hW] at hts hbl ⊢
      have y4 : W.cell? ⟨g1, 0, none⟩ = some (.int .i64 fc) := by rw [Lib.cell_of_heap hts]; rfl
      have y5 : W.cell? ⟨g1, 1, none⟩ = some (.int .i64 (fp : Int)) := by rw [Lib.cell_of_heap hts]; rfl
      clear d0 d1 e0 e1 p3 p4 hts hW
      go_wp2_with fail
      refine bodyPost_ret (v := .tuple #[.slice none 0 0, .agg #[.int .i64 fc, .int .i64 (fp : Int)]]) (by simp [results, Tryd.results32, go_sem, y4, y5]) rfl ?_
      rw [F.out]
      exact ⟨none, 0, rfl, Nat.le_refl _, Nat.zero_le _, stRowO_nilR, hbl⟩
    | ok b q =>
      obtain ⟨l, lf⟩ := b
      obtain ⟨k2, A2, c2, m', rfl, hl1, hl2, row, r2, _, _⟩ := hret
      simp only at hl1 row
      have HG1 : Hid (w2.heap[g1]? = some (.cells #[.int .i64 0, .int .i64 0] 26 (0, 0))) := Lib.hid ((k2.block g1 (by omega) ⟨hn1, by omega⟩).trans HG2.out)
      have B2 : Hid (Below W0.heap.size W0 w2) := Lib.hid (KeepM.base k2 BB.out hrl (by omega))
      have S2 := k2.size
      have R2 := Lib.hid r2
      have RW := Lib.hid row
      clear k2 r2 row HG2
      go_wp2_with fail
      refine (rd_ended _ rb A c s.size q L 0 R2.out).mono ?_
      rintro e w4 ⟨k4, hret⟩
      have B4 : Hid (Below W0.heap.size W0 w4) := Lib.hid (KeepR.base k4 B2.out hrl)
      have HG3 : Hid (w4.heap[g1]? = some (.cells #[.int .i64 0, .int .i64 0] 26 (0, 0))) := Lib.hid ((k4.block g1 (by omega) hn1).trans HG1.out)
      have RW4 := Lib.hid (RW.out.keep fun b hb => k4.block b hb.2 (by have := hb.1; omega))
      have S4 := k4.size
      clear k4 HG1 RW
      rename Hid (w4.heap[g1]? = some (.cells #[.int .i64 0, .int .i64 0] 26 (0, 0))) => HG1
      rcases hret with ⟨hq, rfl, r4⟩ | ⟨hq, rfl, r4⟩
      · have F : Hid (readS s = (l, 0, 0)) := Lib.hid (by rw [HX.out, endS, bind_ok, if_neg hq])
        clear r4 hq HX
        have d0 := Lib.frozen_of_heap HG1.out 0
        have d1 := Lib.frozen_of_heap HG1.out 1
        have e0 : w4.cell? ⟨g1, 0, none⟩ = some (.int .i64 0) := by rw [Lib.cell_of_heap HG1.out]; rfl
        have e1 : w4.cell? ⟨g1, 1, none⟩ = some (.int .i64 0) := by rw [Lib.cell_of_heap HG1.out]; rfl
        have hz1 := lt_of_block HG1.out
        go_wp2_with fail
        obtain ⟨W, hW⟩ : ∃ W, (w4.setCell ⟨g1, 0, none⟩ (.int .i64 0)).setCell ⟨g1, 1, none⟩ (.int .i64 0) = W := ⟨_, rfl⟩
        have hts : ((w4.setCell ⟨g1, 0, none⟩ (.int .i64 0)).setCell ⟨g1, 1, none⟩ (.int .i64 0)).heap[g1]? = some (.cells #[.int .i64 0, .int .i64 0] 26 (0, 0)) := two_cells HG1.out _ _
        have hbl : Below W0.heap.size W0 ((w4.setCell ⟨g1, 0, none⟩ (.int .i64 0)).setCell ⟨g1, 1, none⟩ (.int .i64 0)) := ((B4.out.setCell (p := ⟨g1, 0, none⟩) hg1' _).setCell (p := ⟨g1, 1, none⟩) hg1' _)
        have RWW : StRowO ((w4.setCell ⟨g1, 0, none⟩ (.int .i64 0)).setCell ⟨g1, 1, none⟩ (.int .i64 0)) (Made W0 ((w4.setCell ⟨g1, 0, none⟩ (.int .i64 0)).setCell ⟨g1, 1, none⟩ (.int .i64 0))) A2 l :=
          ((RW4.out.set (p := ⟨g1, 0, none⟩) (fun h => by have h1 : wa.heap.size ≤ g1 := h.1; omega) _).set (p := ⟨g1, 1, none⟩) (fun h => by have h1 : wa.heap.size ≤ g1 := h.1; omega) _).sub (fun b hb => ⟨by have := hb.1; omega, by have := hb.2; simp; omega⟩)
        rw [hW] at hts hbl RWW ⊢
        have y4 : W.cell? ⟨g1, 0, none⟩ = some (.int .i64 0) := by rw [Lib.cell_of_heap hts]; rfl
        have y5 : W.cell? ⟨g1, 1, none⟩ = some (.int .i64 0) := by rw [Lib.cell_of_heap hts]; rfl
        clear d0 d1 e0 e1 hts hW
        refine bodyPost_ret (v := .tuple #[.slice A2 l.length c2, .agg #[.int .i64 0, .int .i64 0]]) (by simp [results, Tryd.results32, go_sem, y4, y5]) rfl ?_
        rw [F.out]
        exact ⟨A2, c2, rfl, hl1, hl2, RWW, hbl⟩
      · have F : Hid (readS s = ([], 3, (posAt L s.size q : Int))) := Lib.hid (by rw [HX.out, endS, bind_ok, if_pos hq])
        have p3 := r4.cs.2.2.2.1
        have p4 := r4.cs.2.2.2.2
        obtain ⟨PP, hPP⟩ : ∃ PP, posAt L s.size q = PP := ⟨_, rfl⟩
        rw [hPP] at F p4
        clear r4 hq hPP HX
        have hrb2 : rb < w4.heap.size := cell_lt p3
        have d0 := Lib.frozen_of_heap HG1.out 0
        have d1 := Lib.frozen_of_heap HG1.out 1
        have e0 : w4.cell? ⟨g1, 0, none⟩ = some (.int .i64 0) := by rw [Lib.cell_of_heap HG1.out]; rfl
        have e1 : w4.cell? ⟨g1, 1, none⟩ = some (.int .i64 0) := by rw [Lib.cell_of_heap HG1.out]; rfl
        have hz1 := lt_of_block HG1.out
        go_upto_region 7 with fail
        go_region_held3 (fun w' => w'.cell? ⟨rb, 3, none⟩ = some (.int .i64 3) ∧ w'.cell? ⟨rb, 4, none⟩ = some (.int .i64 (PP : Int)) ∧ w'.frozen? ⟨g1, 0, none⟩ = false ∧ w'.frozen? ⟨g1, 1, none⟩ = false)
          (first | (refine ⟨?_, ?_, ?_, ?_⟩ <;> first | (with_reducible assumption) | (simp [World.cell?_setCell_other, hn1, hn3, p3, p4, d0, d1]; done)) | go_keep)
          (first | fail)
        obtain ⟨W, hW⟩ : ∃ W, (((w4.setCell ⟨g1, 0, none⟩ (.int .i64 3)).setCell ⟨g1, 1, none⟩ (.int .i64 (PP : Int))).drew) = W := ⟨_, rfl⟩
        have hts : (((w4.setCell ⟨g1, 0, none⟩ (.int .i64 3)).setCell ⟨g1, 1, none⟩ (.int .i64 (PP : Int))).drew).heap[g1]? = some (.cells #[.int .i64 3, .int .i64 (PP : Int)] 26 (0, 0)) := two_cells HG1.out _ _
        have hbl : Below W0.heap.size W0 (((w4.setCell ⟨g1, 0, none⟩ (.int .i64 3)).setCell ⟨g1, 1, none⟩ (.int .i64 (PP : Int))).drew) := ((B4.out.setCell (p := ⟨g1, 0, none⟩) hg1' _).setCell (p := ⟨g1, 1, none⟩) hg1' _).drew
        rw [hW] at hts hbl ⊢
        have y4 : W.cell? ⟨g1, 0, none⟩ = some (.int .i64 3) := by rw [Lib.cell_of_heap hts]; rfl
        have y5 : W.cell? ⟨g1, 1, none⟩ = some (.int .i64 (PP : Int)) := by rw [Lib.cell_of_heap hts]; rfl
        clear d0 d1 e0 e1 p3 p4 hts hW
        go_wp2_with fail
        refine bodyPost_ret (v := .tuple #[.slice none 0 0, .agg #[.int .i64 3, .int .i64 (PP : Int)]]) (by simp [results, Tryd.results32, go_sem, y4, y5]) rfl ?_
        rw [F.out]
        exact ⟨none, 0, rfl, Nat.le_refl _, Nat.zero_le _, stRowO_nilR, hbl⟩
  · have F := Lib.hid (readS_lex hf)
    have hfb : ((lexR s).2.1 != 0) = true := by rw [bne_iff_ne]; exact hf
    have hfb2 : ((lexR s).2.1 == 0) = false := beq_eq_false_iff_ne.2 hf
    have p3 : w1.cell? ⟨rb, 3, none⟩ = some (.int .i64 (lexR s).2.1) := by rw [Lib.cell_of_heap hcell]; rfl
    have p4 : w1.cell? ⟨rb, 4, none⟩ = some (.int .i64 (lexR s).2.2) := by rw [Lib.cell_of_heap hcell]; rfl
    clear hfpn hf hcell hrd hoff hlc b1
    obtain ⟨fc, hfc⟩ : ∃ x, (lexR s).2.1 = x := ⟨_, rfl⟩
    obtain ⟨fp, hfp⟩ : ∃ x, (lexR s).2.2 = x := ⟨_, rfl⟩
    rw [hfc] at F hfb hfb2 p3
    rw [hfp] at F p4
    clear hfc hfp
    have d0 := Lib.frozen_of_heap HG1.out 0
    have d1 := Lib.frozen_of_heap HG1.out 1
    have e0 : w1.cell? ⟨g1, 0, none⟩ = some (.int .i64 0) := by rw [Lib.cell_of_heap HG1.out]; rfl
    have e1 : w1.cell? ⟨g1, 1, none⟩ = some (.int .i64 0) := by rw [Lib.cell_of_heap HG1.out]; rfl
    have hz1 := lt_of_block HG1.out
    go_upto_region 3 with fail
    go_region_held3 (fun w' => w'.cell? ⟨rb, 3, none⟩ = some (.int .i64 fc) ∧ w'.cell? ⟨rb, 4, none⟩ = some (.int .i64 fp) ∧ w'.frozen? ⟨g1, 0, none⟩ = false ∧ w'.frozen? ⟨g1, 1, none⟩ = false)
      (first | (refine ⟨?_, ?_, ?_, ?_⟩ <;> first | (with_reducible assumption) | (simp [World.cell?_setCell_other, hn1, hn3, p3, p4, d0, d1]; done)) | go_keep)
      (first | fail)
    obtain ⟨W, hW⟩ : ∃ W, (((w1.setCell ⟨g1, 0, none⟩ (.int .i64 fc)).setCell ⟨g1, 1, none⟩ (.int .i64 fp)).drew) = W := ⟨_, rfl⟩
    have hts : (((w1.setCell ⟨g1, 0, none⟩ (.int .i64 fc)).setCell ⟨g1, 1, none⟩ (.int .i64 fp)).drew).heap[g1]? = some (.cells #[.int .i64 fc, .int .i64 fp] 26 (0, 0)) := two_cells HG1.out _ _
    have hbl : Below W0.heap.size W0 (((w1.setCell ⟨g1, 0, none⟩ (.int .i64 fc)).setCell ⟨g1, 1, none⟩ (.int .i64 fp)).drew) := ((BA2.out.setCell (p := ⟨g1, 0, none⟩) hg1' _).setCell (p := ⟨g1, 1, none⟩) hg1' _).drew
    rw [hW] at hts hbl ⊢
    have y4 : W.cell? ⟨g1, 0, none⟩ = some (.int .i64 fc) := by rw [Lib.cell_of_heap hts]; rfl
    have y5 : W.cell? ⟨g1, 1, none⟩ = some (.int .i64 fp) := by rw [Lib.cell_of_heap hts]; rfl
    clear d0 d1 e0 e1 p3 p4 hts hW
    go_wp2_with fail
    refine bodyPost_ret (v := .tuple #[.slice none 0 0, .agg #[.int .i64 fc, .int .i64 fp]]) (by simp [results, Tryd.results32, go_sem, y4, y5]) rfl ?_
    rw [F.out]
    exact ⟨none, 0, rfl, Nat.le_refl _, Nat.zero_le _, stRowO_nilR, hbl⟩
end Go.Proofs.YtefcdpkficojgaaDoor
