/- Several texts in one: RdPgU, TermHeld, StmtHeld. -/
import Derived.Test.YtdanlgmpgdipnaaDoorKd45
import Derived.Test.YtdanlgmpgdipnaaDoorKd50
import Derived.Test.YtdanlgmpgdipnaaDoorKd34
namespace Go.Proofs.YtdanlgmpgdipnaaDoor
open Go.RowKit
set_option linter.unusedVariables false


set_option maxHeartbeats 3200000 in
set_option maxRecDepth 100000 in
theorem impl_ReadProg (s : ByteArray) (W0 : World) (tab : TabW W0) :
    Calls Tryd.prog 5 #[.string s] W0 fun e w' => ∃ x : V3, e = .returned (.tuple #[x.val (readP s).1, .agg #[.int .i64 (readP s).2.1, .int .i64 (readP s).2.2]]) ∧ PgO w' (Made W0 w') x (readP s).1 ∧ Below W0.heap.size W0 w' := by
  have TB := Lib.hid tab
  clear tab
  go_enter Tryd.func5, Tryd.ntmps5
  go_wp2_with fail
  have BA : Hid (Below W0.heap.size W0 ((W0.alloc (.cells #[.slice none 0 0, .slice none 0 0, .slice none 0 0] 25)).alloc (.cells #[.int .i64 0, .int .i64 0] 27))) := Lib.hid (by repeat' (first | exact Below.refl _ _ | exact Nat.le_refl _ | (refine Below.alloc ?_ ?_ _) | (refine Below.setCell ?_ ?_ _) | (refine Below.drew ?_) | (refine below_drewN ?_ _) | assumption | (simp; done) | (simp; omega)))
  have Y2 : Hid (((W0.alloc (.cells #[.slice none 0 0, .slice none 0 0, .slice none 0 0] 25)).alloc (.cells #[.int .i64 0, .int .i64 0] 27)).heap[W0.heap.size]? = some (.cells #[.slice none 0 0, .slice none 0 0, .slice none 0 0] 25 (0, 0))) := Lib.hid ((heap_alloc_lt (by simp)).trans (heap_alloc_new _ _))
  have Y3 : Hid (((W0.alloc (.cells #[.slice none 0 0, .slice none 0 0, .slice none 0 0] 25)).alloc (.cells #[.int .i64 0, .int .i64 0] 27)).heap[W0.heap.size + 1]? = some (.cells #[.int .i64 0, .int .i64 0] 27 (0, 0))) := Lib.hid (by have := heap_alloc_new (W0.alloc (.cells #[.slice none 0 0, .slice none 0 0, .slice none 0 0] 25)) (.cells #[.int .i64 0, .int .i64 0] 27); simpa using this)
  obtain ⟨wa, hwa⟩ : ∃ wa, (W0.alloc (.cells #[.slice none 0 0, .slice none 0 0, .slice none 0 0] 25)).alloc (.cells #[.int .i64 0, .int .i64 0] 27) = wa := ⟨_, rfl⟩
  have hza : wa.heap.size = W0.heap.size + 2 := by rw [← hwa]; simp
  rw [hwa] at BA Y2 Y3 ⊢
  clear hwa
  obtain ⟨g2, hg2⟩ : ∃ g, W0.heap.size = g := ⟨_, rfl⟩
  obtain ⟨g3, hg3⟩ : ∃ g, W0.heap.size + 1 = g := ⟨_, rfl⟩
  have HG2 := Lib.hid hg2
  have HG3 := Lib.hid hg3
  rw [hg2] at Y2
  rw [hg3] at Y3
  (try rw [hg3])
  (try rw [hg2])
  refine (impl_newReader s _ (TB.out.below BA.out)).mono ?_
  rintro e w1 ⟨rb, A, c, rfl, hrb, b1, hcell, hrd, hoff, hlc⟩
  have hn23 : ¬ g2 = g3 := by omega
  have hn32 : ¬ g3 = g2 := by omega
  have hn2r : ¬ g2 = rb := by omega
  have hn3r : ¬ g3 = rb := by omega
  have hnr2 : ¬ rb = g2 := by omega
  have hnr3 : ¬ rb = g3 := by omega
  have hrl : W0.heap.size ≤ rb := by omega
  have BA2 : Hid (Below W0.heap.size W0 w1) := Lib.hid (BA.out.trans (b1.mono (by omega)))
  have Y21 := Lib.hid ((b1.block g2 (lt_of_block Y2.out)).trans Y2.out)
  have Y31 := Lib.hid ((b1.block g3 (lt_of_block Y3.out)).trans Y3.out)
  have hz1 : g3 < w1.heap.size := lt_of_block Y31.out
  have hz21 : g2 < w1.heap.size := lt_of_block Y21.out
  clear b1 BA Y2 Y3 hg2 hg3
  by_cases hf : (lexR s).2.1 = 0
  · obtain ⟨hs6, hf2, hL6⟩ := lexR_ok hf
    have R1 : Hid (RdAt w1 rb A c s.size 0 (lexR s).1 0 0) := Lib.hid ⟨by rw [hf, hf2] at hcell; exact hcell, hrd, fun b o e => by have := hoff b o e; omega, by omega, hs6, hL6, hlc⟩
    have HOF : Hid (∀ b o, A = some ⟨b, o, none⟩ → b < w1.heap.size) := Lib.hid (fun b o e => by have := hoff b o e; have := lt_of_block hcell; omega)
    have FIN : Hid (readP s = toRes (rdG (lexR s).1 s.size)) := Lib.hid (by rw [readP_at hf]; cases rdG (lexR s).1 s.size <;> rfl)
    obtain ⟨L, hL⟩ : ∃ L, (lexR s).1 = L := ⟨_, rfl⟩
    rw [hL] at R1 FIN
    have p3 := R1.out.cs.2.2.2.1
    have hrb1 := cell_lt p3
    clear hf hf2 hcell hrd hoff hlc hL6 hL
    go_wp2_with fail
    refine (rd_prog W0 _ rb A c s.size L TB.out BA2.out hrl HOF.out R1.out).mono ?_
    rintro e w2 ⟨k2, hret⟩
    have K2 := Lib.hid k2
    have Y22 := Lib.hid ((k2.block g2 hz21 hn2r).trans Y21.out)
    have Y32 := Lib.hid ((k2.block g3 hz1 hn3r).trans Y31.out)
    have BW : Hid (Below W0.heap.size W0 w2) := Lib.hid (KeepR.base k2 BA2.out hrl)
    have hz2 := k2.size
    clear k2 p3
    generalize rdG L s.size = g at *
    cases g with
    | bad fc fp =>
      obtain ⟨q, rfl, r2⟩ := hret
      have FN : Hid (readP s = (noPg, fc, (fp : Int))) := Lib.hid FIN.out
      have B3 : Hid (Below w2.heap.size w2 (w2.alloc (.cells #[.slice none 0 0, .slice none 0 0, .slice none 0 0] 25))) := Lib.hid (Below.alloc (Below.refl _ _) (Nat.le_refl _) _)
      have R3 := Lib.hid (r2.below B3.out)
      have BW3 : Hid (Below W0.heap.size W0 (w2.alloc (.cells #[.slice none 0 0, .slice none 0 0, .slice none 0 0] 25))) := Lib.hid (below_then BW.out B3.out)
      have Y23 := Lib.hid ((B3.out.block g2 (by omega)).trans Y22.out)
      have Y33 := Lib.hid ((B3.out.block g3 (by omega)).trans Y32.out)
      clear r2 Y22 Y32
      go_upto_region 5 with fail
      obtain ⟨w3, hw3⟩ : ∃ w3, w2.alloc (.cells #[.slice none 0 0, .slice none 0 0, .slice none 0 0] 25) = w3 := ⟨_, rfl⟩
      rw [hw3] at R3 BW3 Y23 Y33 ⊢
      have Y22 := Y23
      have Y32 := Y33
      have p3 := R3.out.cs.2.2.2.1
      have p4 := R3.out.cs.2.2.2.2
      clear hw3 B3 Y23 Y33
      obtain ⟨d0, d1, d2, e0, e1, e2⟩ := box3 Y22.out
      obtain ⟨i0, i1, j0, j1⟩ := prc2R Y32.out
      have hy2 := lt_of_block Y22.out
      have hy3 := lt_of_block Y32.out
      have hrbr := cell_lt p3
      have EA := Lib.hid (end5_a Y22.out Y32.out hn23 (.slice none 0 0) (.slice none 0 0) (.slice none 0 0) (.int .i64 fc) (.int .i64 (fp : Int)))
      have EB := Lib.hid (end5_b Y22.out Y32.out hn23 (.slice none 0 0) (.slice none 0 0) (.slice none 0 0) (.int .i64 fc) (.int .i64 (fp : Int)))
      go_upto_region 6 with fail
      go_region
      all_goals
        go_wp2_with fail
        first
        | (obtain ⟨W, hW⟩ : ∃ W, (((((w3.setCell ⟨g2, 0, none⟩ (.slice none 0 0)).setCell ⟨g2, 1, none⟩ (.slice none 0 0)).setCell ⟨g2, 2, none⟩ (.slice none 0 0)).setCell ⟨g3, 0, none⟩ (.int .i64 fc)).setCell ⟨g3, 1, none⟩ (.int .i64 (fp : Int))).drew = W := ⟨_, rfl⟩
           have hB : Below W0.heap.size W0 ((((((w3.setCell ⟨g2, 0, none⟩ (.slice none 0 0)).setCell ⟨g2, 1, none⟩ (.slice none 0 0)).setCell ⟨g2, 2, none⟩ (.slice none 0 0)).setCell ⟨g3, 0, none⟩ (.int .i64 fc)).setCell ⟨g3, 1, none⟩ (.int .i64 (fp : Int))).drew) := (end5_below BW3.out (by have := HG2.out; omega) (by have := HG3.out; omega) _ _ _ _ _).drew
           have hE := EA.out.drew
           rw [hW] at hE hB ⊢
           obtain ⟨c0, c1, c2, _, _, _⟩ := box3 hE.p
           obtain ⟨c3, c4, _, _⟩ := prc2R hE.q
           refine bodyPost_ret (v := .tuple #[.agg #[.slice none 0 0, .slice none 0 0, .slice none 0 0], .agg #[.int .i64 fc, .int .i64 (fp : Int)]]) (by simp [results, Tryd.results5, go_sem, c0, c1, c2, c3, c4]) rfl ?_
           rw [FN.out]
           exact ⟨⟨none, 0, none, 0, none, 0⟩, rfl, pgO_none _, hB⟩)
        | (obtain ⟨W, hW⟩ : ∃ W, (((((w3.setCell ⟨g3, 0, none⟩ (.int .i64 fc)).setCell ⟨g3, 1, none⟩ (.int .i64 (fp : Int))).setCell ⟨g2, 0, none⟩ (.slice none 0 0)).setCell ⟨g2, 1, none⟩ (.slice none 0 0)).setCell ⟨g2, 2, none⟩ (.slice none 0 0)).drew = W := ⟨_, rfl⟩
           have hB : Below W0.heap.size W0 ((((((w3.setCell ⟨g3, 0, none⟩ (.int .i64 fc)).setCell ⟨g3, 1, none⟩ (.int .i64 (fp : Int))).setCell ⟨g2, 0, none⟩ (.slice none 0 0)).setCell ⟨g2, 1, none⟩ (.slice none 0 0)).setCell ⟨g2, 2, none⟩ (.slice none 0 0)).drew) := (end5_belowb BW3.out (by have := HG2.out; omega) (by have := HG3.out; omega) _ _ _ _ _).drew
           have hE := EB.out.drew
           rw [hW] at hE hB ⊢
           obtain ⟨c0, c1, c2, _, _, _⟩ := box3 hE.p
           obtain ⟨c3, c4, _, _⟩ := prc2R hE.q
           refine bodyPost_ret (v := .tuple #[.agg #[.slice none 0 0, .slice none 0 0, .slice none 0 0], .agg #[.int .i64 fc, .int .i64 (fp : Int)]]) (by simp [results, Tryd.results5, go_sem, c0, c1, c2, c3, c4]) rfl ?_
           rw [FN.out]
           exact ⟨⟨none, 0, none, 0, none, 0⟩, rfl, pgO_none _, hB⟩)
    | ok p q =>
      obtain ⟨x, rfl, po⟩ := hret
      have FN : Hid (readP s = (p, 0, 0)) := Lib.hid FIN.out
      obtain ⟨xgA, xgc, xlA, xlc, xpA, xpc⟩ := x
      have hxv : (V3.mk xgA xgc xlA xlc xpA xpc).val p = .agg #[.slice xgA p.globals.length xgc, .slice xlA p.locks.length xlc, .slice xpA p.procs.length xpc] := rfl
      rw [hxv]
      have PO := Lib.hid po
      have B3 : Hid (Below w2.heap.size w2 (w2.alloc (.cells #[.slice xgA p.globals.length xgc, .slice xlA p.locks.length xlc, .slice xpA p.procs.length xpc] 25))) := Lib.hid (Below.alloc (Below.refl _ _) (Nat.le_refl _) _)
      have BW3 : Hid (Below W0.heap.size W0 (w2.alloc (.cells #[.slice xgA p.globals.length xgc, .slice xlA p.locks.length xlc, .slice xpA p.procs.length xpc] 25))) := Lib.hid (below_then BW.out B3.out)
      have X3 : Hid ((w2.alloc (.cells #[.slice xgA p.globals.length xgc, .slice xlA p.locks.length xlc, .slice xpA p.procs.length xpc] 25)).heap[w2.heap.size]? = some (.cells #[.slice xgA p.globals.length xgc, .slice xlA p.locks.length xlc, .slice xpA p.procs.length xpc] 25 (0, 0))) := Lib.hid (heap_alloc_new _ _)
      have Y23 := Lib.hid ((B3.out.block g2 (by omega)).trans Y22.out)
      have Y33 := Lib.hid ((B3.out.block g3 (by omega)).trans Y32.out)
      clear po Y22 Y32 hxv
      go_upto_region 5 with fail
      obtain ⟨w3, hw3⟩ : ∃ w3, w2.alloc (.cells #[.slice xgA p.globals.length xgc, .slice xlA p.locks.length xlc, .slice xpA p.procs.length xpc] 25) = w3 := ⟨_, rfl⟩
      rw [hw3] at BW3 X3 Y23 Y33 B3 ⊢
      obtain ⟨xb, hxb⟩ : ∃ xb, w2.heap.size = xb := ⟨_, rfl⟩
      rw [hxb] at X3 ⊢
      have HXB := Lib.hid hxb
      clear hw3 hxb
      obtain ⟨d0, d1, d2, e0, e1, e2⟩ := box3 Y23.out
      obtain ⟨i0, i1, j0, j1⟩ := prc2R Y33.out
      obtain ⟨q0, q1, q2, _, _, _⟩ := box3 X3.out
      have hy2 := lt_of_block Y23.out
      have hy3 := lt_of_block Y33.out
      have hx3 := lt_of_block X3.out
      go_wp2_with fail
      have E := end5_a (w := w3) Y23.out Y33.out hn23 (.slice xgA p.globals.length xgc) (.slice xlA p.locks.length xlc) (.slice xpA p.procs.length xpc) (.int .i64 0) (.int .i64 0)
      have hB := end5_below (g2 := g2) (g3 := g3) BW3.out (by have := HG2.out; omega) (by have := HG3.out; omega) (.slice xgA p.globals.length xgc) (.slice xlA p.locks.length xlc) (.slice xpA p.procs.length xpc) (.int .i64 0) (.int .i64 0)
      obtain ⟨W, hW⟩ : ∃ W, (((((w3.setCell ⟨g2, 0, none⟩ (.slice xgA p.globals.length xgc)).setCell ⟨g2, 1, none⟩ (.slice xlA p.locks.length xlc)).setCell ⟨g2, 2, none⟩ (.slice xpA p.procs.length xpc)).setCell ⟨g3, 0, none⟩ (.int .i64 0)).setCell ⟨g3, 1, none⟩ (.int .i64 0)) = W := ⟨_, rfl⟩
      rw [hW] at E hB ⊢
      obtain ⟨c0, c1, c2, _, _, _⟩ := box3 E.p
      obtain ⟨c3, c4, _, _⟩ := prc2R E.q
      have hw0 := BA2.out.size
      have hzW := E.s
      have hz3 := B3.out.size
      refine bodyPost_ret (v := .tuple #[.agg #[.slice xgA p.globals.length xgc, .slice xlA p.locks.length xlc, .slice xpA p.procs.length xpc], .agg #[.int .i64 0, .int .i64 0]]) (by simp [results, Tryd.results5, go_sem, c0, c1, c2, c3, c4]) rfl ?_
      rw [FN.out]
      exact ⟨⟨xgA, xgc, xlA, xlc, xpA, xpc⟩, rfl, (PO.out.keep fun b hb => (E.k b (by have := hb.1; omega) (by have := hb.1; omega)).trans (B3.out.block b hb.2)).sub fun b hb => ⟨by have := hb.1; omega, by have := hb.2; omega⟩, hB⟩
  · have FN := Lib.hid (readP_lex hf)
    have hfb : ((lexR s).2.1 != 0) = true := by rw [bne_iff_ne]; exact hf
    have p3 : w1.cell? ⟨rb, 3, none⟩ = some (.int .i64 (lexR s).2.1) := by rw [Lib.cell_of_heap hcell]; rfl
    have p4 : w1.cell? ⟨rb, 4, none⟩ = some (.int .i64 (lexR s).2.2) := by rw [Lib.cell_of_heap hcell]; rfl
    have Y22 := Y21
    have Y32 := Y31
    clear hf hcell hrd hoff hlc
    obtain ⟨fc, hfc⟩ : ∃ x, (lexR s).2.1 = x := ⟨_, rfl⟩
    obtain ⟨fp, hfp⟩ : ∃ x, (lexR s).2.2 = x := ⟨_, rfl⟩
    rw [hfc] at FN hfb p3
    rw [hfp] at FN p4
    clear hfc hfp
    obtain ⟨d0, d1, d2, e0, e1, e2⟩ := box3 Y22.out
    obtain ⟨i0, i1, j0, j1⟩ := prc2R Y32.out
    have hy2 := lt_of_block Y22.out
    have hy3 := lt_of_block Y32.out
    have hrbr := cell_lt p3
    have EA := Lib.hid (end5_a Y22.out Y32.out hn23 (.slice none 0 0) (.slice none 0 0) (.slice none 0 0) (.int .i64 fc) (.int .i64 fp))
    have EB := Lib.hid (end5_b Y22.out Y32.out hn23 (.slice none 0 0) (.slice none 0 0) (.slice none 0 0) (.int .i64 fc) (.int .i64 fp))
    go_upto_region 3 with fail
    go_region
    all_goals
      go_wp2_with fail
      first
      | (obtain ⟨W, hW⟩ : ∃ W, (((((w1.setCell ⟨g2, 0, none⟩ (.slice none 0 0)).setCell ⟨g2, 1, none⟩ (.slice none 0 0)).setCell ⟨g2, 2, none⟩ (.slice none 0 0)).setCell ⟨g3, 0, none⟩ (.int .i64 fc)).setCell ⟨g3, 1, none⟩ (.int .i64 fp)).drew = W := ⟨_, rfl⟩
         have hB : Below W0.heap.size W0 ((((((w1.setCell ⟨g2, 0, none⟩ (.slice none 0 0)).setCell ⟨g2, 1, none⟩ (.slice none 0 0)).setCell ⟨g2, 2, none⟩ (.slice none 0 0)).setCell ⟨g3, 0, none⟩ (.int .i64 fc)).setCell ⟨g3, 1, none⟩ (.int .i64 fp)).drew) := (end5_below BA2.out (by have := HG2.out; omega) (by have := HG3.out; omega) _ _ _ _ _).drew
         have hE := EA.out.drew
         rw [hW] at hE hB ⊢
         obtain ⟨c0, c1, c2, _, _, _⟩ := box3 hE.p
         obtain ⟨c3, c4, _, _⟩ := prc2R hE.q
         refine bodyPost_ret (v := .tuple #[.agg #[.slice none 0 0, .slice none 0 0, .slice none 0 0], .agg #[.int .i64 fc, .int .i64 fp]]) (by simp [results, Tryd.results5, go_sem, c0, c1, c2, c3, c4]) rfl ?_
         rw [FN.out]
         exact ⟨⟨none, 0, none, 0, none, 0⟩, rfl, pgO_none _, hB⟩)
      | (obtain ⟨W, hW⟩ : ∃ W, (((((w1.setCell ⟨g3, 0, none⟩ (.int .i64 fc)).setCell ⟨g3, 1, none⟩ (.int .i64 fp)).setCell ⟨g2, 0, none⟩ (.slice none 0 0)).setCell ⟨g2, 1, none⟩ (.slice none 0 0)).setCell ⟨g2, 2, none⟩ (.slice none 0 0)).drew = W := ⟨_, rfl⟩
         have hB : Below W0.heap.size W0 ((((((w1.setCell ⟨g3, 0, none⟩ (.int .i64 fc)).setCell ⟨g3, 1, none⟩ (.int .i64 fp)).setCell ⟨g2, 0, none⟩ (.slice none 0 0)).setCell ⟨g2, 1, none⟩ (.slice none 0 0)).setCell ⟨g2, 2, none⟩ (.slice none 0 0)).drew) := (end5_belowb BA2.out (by have := HG2.out; omega) (by have := HG3.out; omega) _ _ _ _ _).drew
         have hE := EB.out.drew
         rw [hW] at hE hB ⊢
         obtain ⟨c0, c1, c2, _, _, _⟩ := box3 hE.p
         obtain ⟨c3, c4, _, _⟩ := prc2R hE.q
         refine bodyPost_ret (v := .tuple #[.agg #[.slice none 0 0, .slice none 0 0, .slice none 0 0], .agg #[.int .i64 fc, .int .i64 fp]]) (by simp [results, Tryd.results5, go_sem, c0, c1, c2, c3, c4]) rfl ?_
         rw [FN.out]
         exact ⟨⟨none, 0, none, 0, none, 0⟩, rfl, pgO_none _, hB⟩)

theorem mkTs_get (k : Nat) (l : List Tm) {i : Nat} (h : i < l.length) : ∀ (h' : i < (mkTs k l).length), (mkTs k l)[i] = mkT (k + 3 * nodess (l.take i)) l[i] := by
  induction l generalizing k i with
  | nil => cases h
  | cons t r ih =>
    intro h'
    cases i with
    | zero => simp [mkTs, nodess]
    | succ i =>
      simp only [mkTs, List.getElem_cons_succ, List.take_succ_cons, nodess]
      rw [ih (k + 3 * nodes t) (by simpa using h)]
      congr 1; omega
abbrev HdC (ts : List Tm) : Prop := ∀ (k : Nat) (A : Option Addr) (c : Nat) (w : World), TmRow AnyB w A (mkTs k ts) → ts.length ≤ c → c ≤ maxLen → 0 < k → k + 3 * nodess ts ≤ 100000000 →
  Calls Tryd.prog 55 #[.slice A ts.length c, .int .i64 (k : Int)] w fun e w' => e = .returned (.int .i64 ((k + 3 * nodess ts : Nat) : Int)) ∧ Below w.heap.size w w'
set_option maxHeartbeats 1000000 in
set_option maxRecDepth 100000 in
theorem laws_heldTermS_at (ts : List Tm) (ih : ∀ t ∈ ts, ∀ k n s kids, t = .mk k n s kids → HdC kids) : HdC ts := by
  intro k A c w row hl hc h0 h1
  unfold maxLen at hc
  have IH := Lib.hid ih
  have RW := Lib.hid row
  clear ih row
  go_enter Tryd.func55, Tryd.ntmps55
  go_wp2_with fail
  go_loopw [1, 5] (fun kk i wr => ∃ j : Nat, j ≤ ts.length ∧ i = .int .i64 j ∧ kk = .int .i64 ((k + 3 * nodess (ts.take j) : Nat) : Int) ∧ Below w.heap.size w wr) (fun _ i _ => ts.length - (intOf i).toNat)
  case atStart => exact ⟨0, Nat.zero_le _, rfl, by simp [nodess], Below.refl _ _⟩
  case round =>
    obtain ⟨j, hj, rfl, rfl, hb⟩ := hrel
    have HB := Lib.hid hb
    clear hb
    by_cases hlt : j < ts.length
    · have hjm : j < (mkTs k ts).length := by rw [mkTs_length]; exact hlt
      obtain ⟨b, off, kd, nn, s, A', m, c', rfl, _, d0, d1, d2, d3, hterm⟩ := rd_term (RW.out.belowA HB.out) hjm
      rw [mkTs_get k ts hlt hjm] at hterm
      obtain ⟨kids', heq', hm, hl', hc', _, _, hs', hrow'⟩ := hterm.inv
      obtain ⟨a0, b0, s0, kids, heq⟩ : ∃ a b s kids, ts[j] = Tm.mk a b s kids := by
        cases ts[j]
        exact ⟨_, _, _, _, rfl⟩
      have hnt := nodess_take ts j hlt
      have hnl := nodess_take_le ts (j + 1)
      have hnk : nodes ts[j] = 1 + nodess kids := by rw [heq, nodes]
      have VK := Lib.hid (IH.out ts[j] (List.getElem_mem hlt) _ _ _ kids heq)
      have HN : Hid (nodess (ts.take (j + 1)) = nodess (ts.take j) + (1 + nodess kids)) := Lib.hid (by omega)
      have hbd : k + 3 * nodess (ts.take j) + 3 + 3 * nodess kids ≤ 100000000 := by omega
      rw [heq, mkT_mk] at heq'
      generalize hK : k + 3 * nodess (ts.take j) = K at *
      injection heq' with e0 e1 e2 e3
      subst e0 e1 e2 e3
      rw [mkTs_length] at hm hl'
      subst hm
      have HK := Lib.hid hK
      have HR' := Lib.hid hrow'
      have hK0 : 0 < K := by omega
      have h0k : (0 : Int) ≤ (j : Int) := by omega
      have h1k : (j : Int) < (ts.length : Int) := by omega
      have h2k : (j : Int) < ((mkTs k ts).length : Int) := by omega
      rw [show ((K + 1 : Nat) : Int) = (K : Int) + 1 from by omega] at d1
      have q0 : (((K : Nat) : Int) != ((K : Nat) : Int)) = false := by simp
      have q1 : ((K : Int) + 1 != (K : Int) + 1) = false := by simp
      have EC : Hid ((K : Int) + 1 + 1 = ((K + 2 : Nat) : Int)) := Lib.hid (by omega)
      have he : ((markT (K + 2)).toList == (markT (K + 2)).toList) = true := by simp
      have hneg : ¬ (((K + 3 + 3 * nodess kids : Nat) : Int) < 0) := by omega
      clear hK hterm hnt hnl hnk heq hjm hs' hrow'
      go_wp2_with fail
      go_region_held3 (fun w' => w'.cell? ⟨b, off + j * 4 + 2, none⟩ = some (.string (markT (K + 2))) ∧ w'.cell? ⟨b, off + j * 4 + 3, none⟩ = some (.slice A' kids.length c'))
        (first | exact ⟨d2, d3⟩ | exact ⟨cell_keep b1 d2, cell_keep b1 d3⟩ | go_keep)
        (first | (go_at_call 36; (try rw [EC.out]); refine (laws_markText (K + 2) _ (by omega) (by omega)).mono ?_; rintro e w1 ⟨rfl, b1⟩) | fail)
      all_goals
        have e3 := cell_keep b1 d3
        have B1 := Lib.hid b1
        go_wp2_with fail
        refine (VK.out (K + 3) A' c' _ ((HR'.out.belowA (Below.refl _ _).drew).belowA B1.out) hl' hc' (by omega) (by omega)).mono ?_
        rintro e w2 ⟨rfl, b2⟩
        have B2 := Lib.hid (below_then (below_then HB.out.drew B1.out) b2)
        clear b2
        go_wp2_with fail
        go_roundw
        case rel => exact ⟨j + 1, by omega, by go_num, by rw [HN.out]; exact congrArg (Value.int .i64) (by have := HK.out; omega), B2.out⟩
        case measure => simp [intOf]; omega
    · go_wp2_with fail
      go_ret
      exact ⟨ret_int (by rw [List.take_of_length_le (by omega)]), HB.out⟩
theorem laws_heldTermS (ts : List Tm) : HdC ts := by
  induction hN : nodess ts using Nat.strongRecOn generalizing ts with
  | ind N ih =>
    refine laws_heldTermS_at ts fun t ht k n s kids e => ?_
    have := nodess_le ht
    have h2 : nodes t = 1 + nodess kids := by rw [e, nodes]
    exact ih _ (by omega) kids rfl

theorem mkGs_get (k : Nat) (l : List St) {i : Nat} (h : i < l.length) : ∀ (h' : i < (mkGs k l).length), (mkGs k l)[i] = mkG (k + smarkss (l.take i)) l[i] := by
  induction l generalizing k i with
  | nil => cases h
  | cons t r ih =>
    intro h'
    cases i with
    | zero => simp [mkGs, smarkss]
    | succ i =>
      simp only [mkGs, List.getElem_cons_succ, List.take_succ_cons, smarkss]
      rw [ih (k + smarks t) (by simpa using h)]
      congr 1; omega
abbrev HgC (l : List St) : Prop := ∀ (k : Nat) (A : Option Addr) (c : Nat) (w : World), StRow AnyB w A (mkGs k l) → l.length ≤ c → c ≤ maxLen → 0 < k → k + smarkss l ≤ 100000000 →
  Calls Tryd.prog 38 #[.slice A l.length c, .int .i64 (k : Int)] w fun e w' => e = .returned (.int .i64 ((k + smarkss l : Nat) : Int)) ∧ Below w.heap.size w w'
set_option maxHeartbeats 2000000 in
set_option maxRecDepth 100000 in
theorem laws_heldStmtS_at (l : List St) (ih : ∀ g ∈ l, ∀ k s t body els, g = .mk k s t body els → HgC body ∧ HgC els) : HgC l := by
  intro k A c w row hl hc h0 h1
  unfold maxLen at hc
  have IH := Lib.hid ih
  have RW := Lib.hid row
  clear ih row
  go_enter Tryd.func38, Tryd.ntmps38
  go_wp2_with fail
  go_loopw [1, 5] (fun kk i wr => ∃ j : Nat, j ≤ l.length ∧ i = .int .i64 j ∧ kk = .int .i64 ((k + smarkss (l.take j) : Nat) : Int) ∧ Below w.heap.size w wr) (fun _ i _ => l.length - (intOf i).toNat)
  case atStart => exact ⟨0, Nat.zero_le _, rfl, by simp [smarkss], Below.refl _ _⟩
  case round =>
    obtain ⟨j, hj, rfl, rfl, hb⟩ := hrel
    have HB := Lib.hid hb
    clear hb
    by_cases hlt : j < l.length
    · have hjm : j < (mkGs k l).length := by rw [mkGs_length]; exact hlt
      obtain ⟨b, off, x, rfl, _, ⟨d0, d1, d2, d3, d4, d5, d6, d7⟩, hg⟩ := rd_stmt (RW.out.belowA HB.out) hjm
      rw [mkGs_get k l hlt hjm] at hg
      obtain ⟨xk, xs, tk, tn, ts, tA, tm, tc, bA, bm, bc, eA, em, ec⟩ := x
      obtain ⟨t', body', els', heq', _, _, hT, hb1, hb2, hb3, rb, he1, he2, he3, re⟩ := hg.inv
      simp only at d0 d1 d2 d3 d4 d5 d6 d7 heq' hb1 hb2 hb3 rb he1 he2 he3 re
      simp only [V8.term] at hT
      obtain ⟨kids', hteq, htm, hl', hc', _, _, _, hrow'⟩ := hT.inv
      obtain ⟨a0, s0, t, body, els, heq⟩ : ∃ a s t b e, l[j] = St.mk a s t b e := by
        cases l[j]
        exact ⟨_, _, _, _, _, rfl⟩
      have hnt := smarkss_take l j hlt
      have hnl := smarkss_take_le l (j + 1)
      have hnk : smarks l[j] = 5 + 3 * nodess t.kids + smarkss body + smarkss els := by rw [heq, smarks]
      have VB := Lib.hid (IH.out l[j] (List.getElem_mem hlt) _ _ _ body els heq).1
      have VE := Lib.hid (IH.out l[j] (List.getElem_mem hlt) _ _ _ body els heq).2
      have HN : Hid (smarkss (l.take (j + 1)) = smarkss (l.take j) + (5 + 3 * nodess t.kids + smarkss body + smarkss els)) := Lib.hid (by omega)
      have hbd : k + smarkss (l.take j) + 5 + 3 * nodess t.kids + smarkss body + smarkss els ≤ 100000000 := by omega
      rw [heq, mkG_mk] at heq'
      generalize hK : k + smarkss (l.take j) = K at *
      generalize t.kids = kids at *
      injection heq' with e0 e1 e2 e3 e4
      subst e2
      injection hteq with f0 f1 f2 f3
      subst e0 e1 e3 e4 f0 f1 f2 f3
      rw [mkTs_length] at htm hl'
      rw [mkGs_length] at hb1 hb2 he1 he2
      subst htm hb1 he1
      have HK := Lib.hid hK
      have HR' := Lib.hid hrow'
      have RB := Lib.hid rb
      have RE := Lib.hid re
      have hK0 : 0 < K := by omega
      have h0k : (0 : Int) ≤ (j : Int) := by omega
      have h1k : (j : Int) < (l.length : Int) := by omega
      rw [show ((K + 2 : Nat) : Int) = (K : Int) + 1 + 1 from by omega] at d2
      rw [show ((K + 3 : Nat) : Int) = (K : Int) + 1 + 1 + 1 from by omega] at d3
      have q0 : (((K : Nat) : Int) != ((K : Nat) : Int)) = false := by simp
      have q2 : ((K : Int) + 1 + 1 != (K : Int) + 1 + 1) = false := by simp
      have q3 : ((K : Int) + 1 + 1 + 1 != (K : Int) + 1 + 1 + 1) = false := by simp
      have EC1 : Hid ((K : Int) + 1 = ((K + 1 : Nat) : Int)) := Lib.hid (by omega)
      have EC4 : Hid ((K : Int) + 1 + 1 + 1 + 1 = ((K + 4 : Nat) : Int)) := Lib.hid (by omega)
      have he1 : ((markT (K + 1)).toList == (markT (K + 1)).toList) = true := by simp
      have he4 : ((markT (K + 4)).toList == (markT (K + 4)).toList) = true := by simp
      have hneg5 : ¬ (((K + 5 + 3 * nodess kids : Nat) : Int) < 0) := by omega
      clear hK hg hnt hnl hnk heq hjm hrow' hT rb re
      go_wp2_with fail
      go_region_held3 (fun w' => w'.cell? ⟨b, off + j * 8 + 1, none⟩ = some (.string (markT (K + 1))))
        (first | exact d1 | exact cell_keep b1 d1 | go_keep)
        (first | (go_at_call 36; (try rw [EC1.out]); refine (laws_markText (K + 1) _ (by omega) (by omega)).mono ?_; rintro e w1 ⟨rfl, b1⟩) | fail)
      all_goals
        have g2 := cell_keep b1 d2
        have g3 := cell_keep b1 d3
        have g4 := cell_keep b1 d4
        have g5 := cell_keep b1 d5
        have g6 := cell_keep b1 d6
        have g7 := cell_keep b1 d7
        have B1 := Lib.hid (below_then (Below.refl wr.heap.size wr).drew b1)
        clear b1 d0 d1 d2 d3 d4 d5 d6 d7
        go_wp2_with fail
        go_region_held3 (fun w' => w'.cell? ⟨b, off + j * 8 + 4, none⟩ = some (.string (markT (K + 4))))
          (first | exact g4 | exact cell_keep b2 g4 | go_keep)
          (first | (go_at_call 36; (try rw [EC4.out]); refine (laws_markText (K + 4) _ (by omega) (by omega)).mono ?_; rintro e w2 ⟨rfl, b2⟩) | fail)
        all_goals
          have k5 := cell_keep b2 g5
          have k6 := cell_keep b2 g6
          have k7 := cell_keep b2 g7
          have B2 := Lib.hid (below_then B1.out (below_then (Below.refl w1.heap.size w1).drew b2))
          clear b2 g2 g3 g4 g5 g6 g7
          go_wp2_with fail
          refine (laws_heldTermS kids (K + 5) tA tc _ (HR'.out.belowA B2.out) hl' hc' (by omega) (by omega)).mono ?_
          rintro e w3 ⟨rfl, b3⟩
          have m6 := cell_keep b3 k6
          have m7 := cell_keep b3 k7
          have B3 := Lib.hid (below_then B2.out b3)
          clear b3 k5 k6 k7
          go_wp2_with fail
          refine (VB.out (K + 5 + 3 * nodess kids) bA bc _ (RB.out.belowA B3.out) hb2 hb3 (by omega) (by omega)).mono ?_
          rintro e w4 ⟨rfl, b4⟩
          have n7 := cell_keep b4 m7
          have B4 := Lib.hid (below_then B3.out b4)
          clear b4 m6 m7
          go_wp2_with fail
          refine (VE.out (K + 5 + 3 * nodess kids + smarkss body) eA ec _ (RE.out.belowA B4.out) he2 he3 (by omega) (by omega)).mono ?_
          rintro e w5 ⟨rfl, b5⟩
          have B5 := Lib.hid (below_then B4.out b5)
          clear b5 n7
          go_wp2_with fail
          go_roundw
          case rel => exact ⟨j + 1, by omega, by go_num, by rw [HN.out]; exact congrArg (Value.int .i64) (by have := HK.out; omega), (HB.out.trans (B5.out.mono HB.out.size))⟩
          case measure => simp [intOf]; omega
    · go_wp2_with fail
      go_ret
      exact ⟨ret_int (by rw [List.take_of_length_le (by omega)]), HB.out⟩
theorem laws_heldStmtS (l : List St) : HgC l := by
  induction hN : snodess l using Nat.strongRecOn generalizing l with
  | ind N ih =>
    refine laws_heldStmtS_at l fun g hg k s t body els e => ?_
    have := snodess_le hg
    have h2 : snodes g = 1 + snodess body + snodess els := by rw [e, snodes]
    exact ⟨ih _ (by omega) body rfl, ih _ (by omega) els rfl⟩
end Go.Proofs.YtdanlgmpgdipnaaDoor
