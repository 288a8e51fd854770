/- Several texts in one: RsPgT. -/
import Derived.Test.YtdanlgmpgdipnaaDoorKd44
namespace Go.Proofs.YtdanlgmpgdipnaaDoor
open Go.RowKit
set_option linter.unusedVariables false


theorem set2_1 {w : World} {g : Nat} {a b : Value} {T : TypeId} (h : w.heap[g]? = some (.cells #[a, b] T (0, 0))) (v : Value) : (w.setCell ⟨g, 1, none⟩ v).heap[g]? = some (.cells #[a, v] T (0, 0)) := by simp [World.setCell, Array.getElem?_modify, h]
theorem set2_0 {w : World} {g : Nat} {a b : Value} {T : TypeId} (h : w.heap[g]? = some (.cells #[a, b] T (0, 0))) (v : Value) : (w.setCell ⟨g, 0, none⟩ v).heap[g]? = some (.cells #[v, b] T (0, 0)) := by simp [World.setCell, Array.getElem?_modify, h]
theorem Own.slice3 {w0 w : World} {t : TypeId} {k n : Nat} {v : Value} {cs : List Value} (h : Own w0 w t k v n cs) : ∃ A m c, v = .slice A m c := by
  obtain ⟨A, c, rfl, _⟩ := h.slice
  exact ⟨A, n, c, rfl⟩
theorem prc2R {w : World} {g : Nat} {a b : Value} {T : TypeId} (h : w.heap[g]? = some (.cells #[a, b] T (0, 0))) : w.cell? ⟨g, 0, none⟩ = some a ∧ w.cell? ⟨g, 1, none⟩ = some b ∧ w.frozen? ⟨g, 0, none⟩ = false ∧ w.frozen? ⟨g, 1, none⟩ = false :=
  ⟨by rw [Lib.cell_of_heap h]; rfl, by rw [Lib.cell_of_heap h]; rfl, Lib.frozen_of_heap h 0, Lib.frozen_of_heap h 1⟩
/-- five cells stored, a program's and a fault's -/
structure End5 (w : World) (g2 g3 : Nat) (x y z f g : Value) (W : World) : Prop where
  p : W.heap[g2]? = some (.cells #[x, y, z] 25 (0, 0))
  q : W.heap[g3]? = some (.cells #[f, g] 27 (0, 0))
  k : ∀ b, b ≠ g2 → b ≠ g3 → W.heap[b]? = w.heap[b]?
  s : W.heap.size = w.heap.size
theorem end5_a {w : World} {g2 g3 : Nat} {a b c d e : Value} (h2 : w.heap[g2]? = some (.cells #[a, b, c] 25 (0, 0))) (h3 : w.heap[g3]? = some (.cells #[d, e] 27 (0, 0))) (hn : ¬ g2 = g3) (x y z f g : Value) : End5 w g2 g3 x y z f g (((((w.setCell ⟨g2, 0, none⟩ x).setCell ⟨g2, 1, none⟩ y).setCell ⟨g2, 2, none⟩ z).setCell ⟨g3, 0, none⟩ f).setCell ⟨g3, 1, none⟩ g) := by
  have hk : ∀ k, k ≠ g2 → (((w.setCell ⟨g2, 0, none⟩ x).setCell ⟨g2, 1, none⟩ y).setCell ⟨g2, 2, none⟩ z).heap[k]? = w.heap[k]? := fun k hk => s3_blk hk
  refine ⟨?_, set2_1 (set2_0 ((hk g3 (Ne.symm hn)).trans h3) f) g, fun k h1 h2 => ?_, by simp only [World.size_setCell]⟩
  · exact ((Below.heap_setCell _ ⟨g3, 1, none⟩ g g2 hn).trans (Below.heap_setCell _ ⟨g3, 0, none⟩ f g2 hn)).trans (s3_all h2 x y z)
  · exact ((Below.heap_setCell _ ⟨g3, 1, none⟩ g k h2).trans (Below.heap_setCell _ ⟨g3, 0, none⟩ f k h2)).trans (hk k h1)
theorem end5_b {w : World} {g2 g3 : Nat} {a b c d e : Value} (h2 : w.heap[g2]? = some (.cells #[a, b, c] 25 (0, 0))) (h3 : w.heap[g3]? = some (.cells #[d, e] 27 (0, 0))) (hn : ¬ g2 = g3) (x y z f g : Value) : End5 w g2 g3 x y z f g (((((w.setCell ⟨g3, 0, none⟩ f).setCell ⟨g3, 1, none⟩ g).setCell ⟨g2, 0, none⟩ x).setCell ⟨g2, 1, none⟩ y).setCell ⟨g2, 2, none⟩ z) := by
  have hk : ∀ k, k ≠ g3 → ((w.setCell ⟨g3, 0, none⟩ f).setCell ⟨g3, 1, none⟩ g).heap[k]? = w.heap[k]? := fun k hk => (Below.heap_setCell _ ⟨g3, 1, none⟩ g k hk).trans (Below.heap_setCell _ ⟨g3, 0, none⟩ f k hk)
  refine ⟨s3_all ((hk g2 hn).trans h2) x y z, ?_, fun k h1 h2 => ?_, by simp only [World.size_setCell]⟩
  · exact (s3_blk (Ne.symm hn)).trans (set2_1 (set2_0 h3 f) g)
  · exact (s3_blk h1).trans (hk k h2)
theorem End5.drew {w W : World} {g2 g3 : Nat} {x y z f g : Value} (h : End5 w g2 g3 x y z f g W) : End5 w g2 g3 x y z f g W.drew := ⟨h.p, h.q, h.k, h.s⟩
theorem end5_below {B : Nat} {W0 w : World} {g2 g3 : Nat} (h : Below B W0 w) (h2 : B ≤ g2) (h3 : B ≤ g3) (x y z f g : Value) : Below B W0 (((((w.setCell ⟨g2, 0, none⟩ x).setCell ⟨g2, 1, none⟩ y).setCell ⟨g2, 2, none⟩ z).setCell ⟨g3, 0, none⟩ f).setCell ⟨g3, 1, none⟩ g) :=
  ((((h.setCell (p := ⟨g2, 0, none⟩) h2 _).setCell (p := ⟨g2, 1, none⟩) h2 _).setCell (p := ⟨g2, 2, none⟩) h2 _).setCell (p := ⟨g3, 0, none⟩) h3 _).setCell (p := ⟨g3, 1, none⟩) h3 _
theorem end5_belowb {B : Nat} {W0 w : World} {g2 g3 : Nat} (h : Below B W0 w) (h2 : B ≤ g2) (h3 : B ≤ g3) (x y z f g : Value) : Below B W0 (((((w.setCell ⟨g3, 0, none⟩ f).setCell ⟨g3, 1, none⟩ g).setCell ⟨g2, 0, none⟩ x).setCell ⟨g2, 1, none⟩ y).setCell ⟨g2, 2, none⟩ z) :=
  ((((h.setCell (p := ⟨g3, 0, none⟩) h3 _).setCell (p := ⟨g3, 1, none⟩) h3 _).setCell (p := ⟨g2, 0, none⟩) h2 _).setCell (p := ⟨g2, 1, none⟩) h2 _).setCell (p := ⟨g2, 2, none⟩) h2 _
set_option maxHeartbeats 12800000 in
set_option maxRecDepth 100000 in
theorem spec_ReadProg (s : ByteArray) (W0 : World) :
    Calls Tryd.prog 4 #[.string s] W0 fun e w' => ∃ x : V3, e = .returned (.tuple #[x.val (readP s).1, .agg #[.int .i64 (readP s).2.1, .int .i64 (readP s).2.2]]) ∧ PgO w' (Made W0 w') x (readP s).1 ∧ Below W0.heap.size W0 w' := by
  go_enter Tryd.func4, Tryd.ntmps4
  go_wp2_with fail
  have BA : Hid (Below W0.heap.size W0 ((W0.alloc (.cells #[.slice none 0 0, .slice none 0 0, .slice none 0 0] 25)).alloc (.cells #[.int .i64 0, .int .i64 0] 27))) := Lib.hid (by repeat' (first | exact Below.refl _ _ | exact Nat.le_refl _ | (refine Below.alloc ?_ ?_ _) | (refine Below.setCell ?_ ?_ _) | (refine Below.drew ?_) | (refine below_drewN ?_ _) | assumption | (simp; done) | (simp; omega)))
  have Y2 : Hid (((W0.alloc (.cells #[.slice none 0 0, .slice none 0 0, .slice none 0 0] 25)).alloc (.cells #[.int .i64 0, .int .i64 0] 27)).heap[W0.heap.size]? = some (.cells #[.slice none 0 0, .slice none 0 0, .slice none 0 0] 25 (0, 0))) := Lib.hid ((heap_alloc_lt (by simp)).trans (heap_alloc_new _ _))
  have Y3 : Hid (((W0.alloc (.cells #[.slice none 0 0, .slice none 0 0, .slice none 0 0] 25)).alloc (.cells #[.int .i64 0, .int .i64 0] 27)).heap[W0.heap.size + 1]? = some (.cells #[.int .i64 0, .int .i64 0] 27 (0, 0))) := Lib.hid (by have := heap_alloc_new (W0.alloc (.cells #[.slice none 0 0, .slice none 0 0, .slice none 0 0] 25)) (.cells #[.int .i64 0, .int .i64 0] 27); simpa using this)
  obtain ⟨wa, hwa⟩ : ∃ wa, (W0.alloc (.cells #[.slice none 0 0, .slice none 0 0, .slice none 0 0] 25)).alloc (.cells #[.int .i64 0, .int .i64 0] 27) = wa := ⟨_, rfl⟩
  have hza : wa.heap.size = W0.heap.size + 2 := by rw [← hwa]; simp
  rw [hwa] at BA Y2 Y3 ⊢
  clear hwa
  obtain ⟨g2, hg2⟩ : ∃ g, W0.heap.size = g := ⟨_, rfl⟩
  obtain ⟨g3, hg3⟩ : ∃ g, W0.heap.size + 1 = g := ⟨_, rfl⟩
  have HG2 := Lib.hid hg2
  have HG3 := Lib.hid hg3
  rw [hg2] at Y2
  rw [hg3] at Y3
  (try rw [hg3])
  (try rw [hg2])
  refine (spec_l06New s _).mono ?_
  rintro e w1 ⟨rb, A, c, rfl, hrb, b1, hcell, hrd, hoff, hlc⟩
  have hn23 : ¬ g2 = g3 := by omega
  have hn32 : ¬ g3 = g2 := by omega
  have hn2r : ¬ g2 = rb := by omega
  have hn3r : ¬ g3 = rb := by omega
  have hnr2 : ¬ rb = g2 := by omega
  have hnr3 : ¬ rb = g3 := by omega
  have hrl : W0.heap.size ≤ rb := by omega
  have BA2 : Hid (Below W0.heap.size W0 w1) := Lib.hid (BA.out.trans (b1.mono (by omega)))
  have Y21 := Lib.hid ((b1.block g2 (lt_of_block Y2.out)).trans Y2.out)
  have Y31 := Lib.hid ((b1.block g3 (lt_of_block Y3.out)).trans Y3.out)
  have hrb1 := lt_of_block hcell
  have hz1 : g3 < w1.heap.size := lt_of_block Y31.out
  have hz21 : g2 < w1.heap.size := lt_of_block Y21.out
  obtain ⟨fpn, hfpn⟩ := lexR_pos s
  obtain ⟨L, hL⟩ : ∃ L, (lexR s).1 = L := ⟨_, rfl⟩
  have HS : Hid (SgsOk L) := Lib.hid (by rw [← hL]; exact sgs_ok s)
  have hl6 := lexR_len s
  have HA : Hid (∀ b o, A = some ⟨b, o, none⟩ → b < w1.heap.size) := Lib.hid (fun b o e => by have := hoff b o e; omega)
  have HST : Hid (∃ g0 : Got Unit, RsSt w1 rb A c s.size L g0 60 ∧ readP s = toRes (rdGX L s.size g0)) := Lib.hid (by
    rw [hL] at hcell hrd hlc hl6
    rw [hfpn] at hcell
    have R1 : RsAt w1 rb A c s.size 0 L (lexR s).2.1 fpn 60 := ⟨hcell, hrd, fun b o e => by have := hoff b o e; omega, by omega, hl6, hlc⟩
    by_cases hf : (lexR s).2.1 = 0
    · rw [hf] at R1
      have hfz : fpn = 0 := by have := (lexR_ok hf).2.1; omega
      rw [hfz] at R1
      exact ⟨.ok () 0, R1, by rw [readP_res hf, hL]⟩
    · exact ⟨.bad (lexR s).2.1 fpn, ⟨hf, 0, R1⟩, by rw [readP_lex hf, hfpn]; rfl⟩)
  obtain ⟨g0, r0, hfin⟩ := HST.out
  have R0 := Lib.hid r0
  have FIN := Lib.hid hfin
  obtain ⟨n, hn⟩ : ∃ n, s.size = n := ⟨_, rfl⟩
  rw [hn] at R0 FIN
  clear r0 hfin HST hrb b1 hcell hrd hoff hlc hl6 hL hfpn BA Y2 Y3 hg2 hg3 hn
  go_wp2_with fail
  refine (rs_listG ⟨#[103, 108, 111, 98, 97, 108, 115]⟩ (by decide) _ rb A c n L 60 g0 HS.out HA.out R0.out).mono ?_
  rintro e w2 ⟨k2, gA, gm, gc, rfl, r2, hg⟩
  have R2 := Lib.hid r2
  have K2 : Hid (KeepR rb w1 w2) := Lib.hid k2
  have HGL := Lib.hid hg
  have hz2 := k2.size
  clear k2 r2 hg R0
  have BP : Hid (Below w2.heap.size w2 (w2.alloc (.cells #[.slice gA gm gc, .slice none 0 0, .slice none 0 0] 25))) := Lib.hid (Below.alloc (Below.refl _ _) (Nat.le_refl _) _)
  have V3 : Hid ((w2.alloc (.cells #[.slice gA gm gc, .slice none 0 0, .slice none 0 0] 25)).heap[w2.heap.size]? = some (.cells #[.slice gA gm gc, .slice none 0 0, .slice none 0 0] 25 (0, 0))) := Lib.hid (heap_alloc_new _ _)
  have R3 := Lib.hid (R2.out.below BP.out)
  have K3 : Hid (KeepR rb w1 (w2.alloc (.cells #[.slice gA gm gc, .slice none 0 0, .slice none 0 0] 25))) := Lib.hid (K2.out.trans' (KeepR.of_below' BP.out))
  go_wp2_with fail
  obtain ⟨w3, hw3⟩ : ∃ w3, w2.alloc (.cells #[.slice gA gm gc, .slice none 0 0, .slice none 0 0] 25) = w3 := ⟨_, rfl⟩
  have hz3 : w3.heap.size = w2.heap.size + 1 := by rw [← hw3]; simp
  rw [hw3] at BP V3 R3 K3 ⊢
  obtain ⟨pb, hpb⟩ : ∃ pb, w2.heap.size = pb := ⟨_, rfl⟩
  rw [hpb] at V3 ⊢
  have hnpr : ¬ pb = rb := by omega
  have hnrp : ¬ rb = pb := by omega
  have hnp2 : ¬ pb = g2 := by omega
  have hn2p : ¬ g2 = pb := by omega
  have hnp3 : ¬ pb = g3 := by omega
  have hn3p : ¬ g3 = pb := by omega
  have HG3R : Hid (∀ l q, thenLs L n ⟨#[103, 108, 111, 98, 97, 108, 115]⟩ g0 = .ok l q → gm = l.length ∧ gm ≤ gc ∧ gc ≤ maxLen ∧ StrRowO w3 (fun b => w1.heap.size ≤ b ∧ b < pb) gA l) := Lib.hid (fun l q h => by
    obtain ⟨a1, a2, a3, a4⟩ := HGL.out l q h
    exact ⟨a1, a2, a3, RowOf.subR (a4.keep fun b hb => BP.out.block b hb.2) (fun b hb => ⟨hb.1, by have := hb.2; omega⟩)⟩)
  clear hw3 BP R2 K2 HGL
  refine (rs_listG ⟨#[108, 111, 99, 107, 115]⟩ (by decide) _ rb A c n L 60 _ HS.out (fun b o e => Nat.lt_of_lt_of_le (HA.out b o e) K3.out.size) R3.out).mono ?_
  rintro e w4 ⟨k4, lA, lm, lc, rfl, r4, hl⟩
  have R4 := Lib.hid r4
  have K4 : Hid (KeepR rb w1 w4) := Lib.hid (K3.out.trans' k4)
  have V4 := Lib.hid ((k4.block pb (lt_of_block V3.out) hnpr).trans V3.out)
  have hz4 := k4.size
  have HLR := Lib.hid hl
  have HG4R : Hid (∀ l q, thenLs L n ⟨#[103, 108, 111, 98, 97, 108, 115]⟩ g0 = .ok l q → gm = l.length ∧ gm ≤ gc ∧ gc ≤ maxLen ∧ StrRowO w4 (fun b => w1.heap.size ≤ b ∧ b < pb) gA l) := Lib.hid (fun l q h => by
    obtain ⟨a1, a2, a3, a4⟩ := HG3R.out l q h
    exact ⟨a1, a2, a3, a4.keep fun b hb => k4.block b (by have := hb.2; omega) (by have := hb.1; omega)⟩)
  clear k4 r4 hl R3 K3 V3 HG3R
  obtain ⟨d0, d1, d2, e0, e1, e2⟩ := box3 V4.out
  have hzp := lt_of_block V4.out
  have R5 := Lib.hid (R4.out.setg (b := pb) hnpr (fun b o e => by have := HA.out b o e; omega) 1 (.slice lA lm lc))
  have K5 := Lib.hid (KeepR.setg K4.out (g := pb) (o := 1) (by omega) (.slice lA lm lc))
  have V5 : Hid ((w4.setCell ⟨pb, 1, none⟩ (.slice lA lm lc)).heap[pb]? = some (.cells #[.slice gA gm gc, .slice lA lm lc, .slice none 0 0] 25 (0, 0))) := Lib.hid (s3_1 V4.out _)
  have BS : Hid (∀ b, b ≠ pb → (w4.setCell ⟨pb, 1, none⟩ (.slice lA lm lc)).heap[b]? = w4.heap[b]?) := Lib.hid (fun b hb => Below.heap_setCell w4 ⟨pb, 1, none⟩ _ b hb)
  go_wp2_with fail
  obtain ⟨wl, hwl⟩ : ∃ wl, w4.setCell ⟨pb, 1, none⟩ (.slice lA lm lc) = wl := ⟨_, rfl⟩
  have hzl : wl.heap.size = w4.heap.size := by rw [← hwl]; simp
  rw [hwl] at R5 K5 V5 BS ⊢
  have hpl : pb < wl.heap.size := by omega
  have hwl1 : w1.heap.size ≤ wl.heap.size := by omega
  have HW1 : Hid (w1.heap.size ≤ pb) := Lib.hid (by omega)
  have hrbl : rb < wl.heap.size := by omega
  have START : Hid (∃ g : Got Unit, RsSt wl rb A c n L g 60 ∧ PgSt wl wl L n (rdGX L n g0) w1.heap.size pb gA gm gc lA lm lc [] (.slice none 0 0) g) := Lib.hid (pgSt_start
    (fun l q h => by
      obtain ⟨a1, a2, a3, a4⟩ := HG4R.out l q h
      exact ⟨a1, a2, a3, a4.keep fun b hb => BS.out b (by have := hb.2; omega)⟩)
    (fun l q h => by
      obtain ⟨a1, a2, a3, a4⟩ := HLR.out l q h
      exact ⟨a1, a2, a3, RowOf.subR (a4.keep fun b hb => BS.out b (by have := hb.1; omega)) (fun b hb => ⟨by have := hb.1; omega, by have := hb.2; omega⟩)⟩) R5.out)
  clear hwl R4 K4 V4 HG4R HLR R5 BS d0 d1 d2 e0 e1 e2 hz4 hz3 hz2 hzp
  go_loopw [] (fun wr => ∃ (acc : List Pr) (g : Got Unit) (lf : Int) (A' : Option Addr) (m c' : Nat), Hid (RsSt wr rb A c n L g lf ∧ KeepR rb w1 wr ∧ wr.heap[pb]? = some (.cells #[.slice gA gm gc, .slice lA lm lc, .slice A' m c'] 25 (0, 0)) ∧ wl.heap.size ≤ wr.heap.size ∧ PgSt wl wr L n (rdGX L n g0) w1.heap.size pb gA gm gc lA lm lc acc (.slice A' m c') g)) (fun wr => msOf L wr rb)
  case atStart =>
    obtain ⟨g, r, st⟩ := START.out
    exact ⟨[], g, 60, none, 0, 0, Lib.hid ⟨r, K5.out, V5.out, Nat.le_refl _, st⟩⟩
  case round =>
    rename World => wr
    obtain ⟨acc, g, lf, A', m, c', HR⟩ := hrel
    obtain ⟨hr, hk, hv, hwz, hst⟩ := HR.out
    have K0 := Lib.hid hk
    have V0 := Lib.hid hv
    have HWR : Hid (w1.heap.size ≤ wr.heap.size) := Lib.hid hk.size
    have hpr := lt_of_block hv
    have HST := Lib.hid hst
    have HRS := Lib.hid hr
    clear hr hk hv hst HR
    cases g with
    | bad fc fp =>
      obtain ⟨hf, q, r0⟩ := HRS.out
      have RA := Lib.hid r0
      have HF := Lib.hid hf
      have HFC : Hid (rdGX L n g0 = .bad fc fp) := Lib.hid HST.out.2
      have hfb : (fc == 0) = false := beq_eq_false_iff_ne.2 hf
      have hfn : (fc != 0) = true := by rw [bne_iff_ne]; exact hf
      have p3 := r0.cs.2.2.2.1
      have p4 := r0.cs.2.2.2.2.1
      clear hf
      go_wp2_with fail
      go_quiet (fail)
      go_upto_region 15 with fail
      obtain ⟨wq, hwq⟩ : ∃ wq, wr.drewN nq = wq := ⟨_, rfl⟩
      have BQ : Hid (Below wr.heap.size wr wq) := Lib.hid (by rw [← hwq]; exact (by repeat' (first | exact Below.refl _ _ | exact Nat.le_refl _ | (refine Below.alloc ?_ ?_ _) | (refine Below.setCell ?_ ?_ _) | (refine Below.drew ?_) | (refine below_drewN ?_ _) | assumption | (simp; done) | (simp; omega))))
      rw [hwq]
      have KQ : Hid (KeepR rb w1 wq) := Lib.hid (K0.out.trans' (KeepR.of_below' BQ.out))
      have Y22 := Lib.hid ((KQ.out.block g2 hz21 hn2r).trans Y21.out)
      have Y32 := Lib.hid ((KQ.out.block g3 hz1 hn3r).trans Y31.out)
      have rq := r0.below BQ.out
      have p3 := rq.cs.2.2.2.1
      have p4 := rq.cs.2.2.2.2.1
      obtain ⟨d0, d1, d2, e0, e1, e2⟩ := box3 Y22.out
      obtain ⟨i0, i1, j0, j1⟩ := prc2R Y32.out
      have hy2 := lt_of_block Y22.out
      have hy3 := lt_of_block Y32.out
      have hrbr := rq.lt
      have EA := Lib.hid (end5_a Y22.out Y32.out hn23 (.slice none 0 0) (.slice none 0 0) (.slice none 0 0) (.int .i64 fc) (.int .i64 (fp : Int)))
      have EB := Lib.hid (end5_b Y22.out Y32.out hn23 (.slice none 0 0) (.slice none 0 0) (.slice none 0 0) (.int .i64 fc) (.int .i64 (fp : Int)))
      have FN : Hid (readP s = (noPg, fc, (fp : Int))) := Lib.hid (by rw [FIN.out, HFC.out]; rfl)
      have BW : Hid (Below W0.heap.size W0 wq) := Lib.hid (KeepR.base KQ.out BA2.out hrl)
      clear r0 rq hwq
      go_region
      all_goals
        go_wp2_with fail
        first
        | (obtain ⟨W, hW⟩ : ∃ W, (((((wq.setCell ⟨g2, 0, none⟩ (.slice none 0 0)).setCell ⟨g2, 1, none⟩ (.slice none 0 0)).setCell ⟨g2, 2, none⟩ (.slice none 0 0)).setCell ⟨g3, 0, none⟩ (.int .i64 fc)).setCell ⟨g3, 1, none⟩ (.int .i64 (fp : Int))).drew = W := ⟨_, rfl⟩
           have hB : Below W0.heap.size W0 ((((((wq.setCell ⟨g2, 0, none⟩ (.slice none 0 0)).setCell ⟨g2, 1, none⟩ (.slice none 0 0)).setCell ⟨g2, 2, none⟩ (.slice none 0 0)).setCell ⟨g3, 0, none⟩ (.int .i64 fc)).setCell ⟨g3, 1, none⟩ (.int .i64 (fp : Int))).drew) := (end5_below BW.out (by have := HG2.out; omega) (by have := HG3.out; omega) _ _ _ _ _).drew
           have hE := EA.out.drew
           rw [hW] at hE hB ⊢
           obtain ⟨c0, c1, c2, _, _, _⟩ := box3 hE.p
           obtain ⟨c3, c4, _, _⟩ := prc2R hE.q
           refine bodyPost_ret (v := .tuple #[.agg #[.slice none 0 0, .slice none 0 0, .slice none 0 0], .agg #[.int .i64 fc, .int .i64 (fp : Int)]]) (by simp [results, Tryd.results4, go_sem, c0, c1, c2, c3, c4]) rfl ?_
           rw [FN.out]
           exact ⟨⟨none, 0, none, 0, none, 0⟩, rfl, pgO_none _, hB⟩)
        | (obtain ⟨W, hW⟩ : ∃ W, (((((wq.setCell ⟨g3, 0, none⟩ (.int .i64 fc)).setCell ⟨g3, 1, none⟩ (.int .i64 (fp : Int))).setCell ⟨g2, 0, none⟩ (.slice none 0 0)).setCell ⟨g2, 1, none⟩ (.slice none 0 0)).setCell ⟨g2, 2, none⟩ (.slice none 0 0)).drew = W := ⟨_, rfl⟩
           have hB : Below W0.heap.size W0 ((((((wq.setCell ⟨g3, 0, none⟩ (.int .i64 fc)).setCell ⟨g3, 1, none⟩ (.int .i64 (fp : Int))).setCell ⟨g2, 0, none⟩ (.slice none 0 0)).setCell ⟨g2, 1, none⟩ (.slice none 0 0)).setCell ⟨g2, 2, none⟩ (.slice none 0 0)).drew) := (end5_belowb BW.out (by have := HG2.out; omega) (by have := HG3.out; omega) _ _ _ _ _).drew
           have hE := EB.out.drew
           rw [hW] at hE hB ⊢
           obtain ⟨c0, c1, c2, _, _, _⟩ := box3 hE.p
           obtain ⟨c3, c4, _, _⟩ := prc2R hE.q
           refine bodyPost_ret (v := .tuple #[.agg #[.slice none 0 0, .slice none 0 0, .slice none 0 0], .agg #[.int .i64 fc, .int .i64 (fp : Int)]]) (by simp [results, Tryd.results4, go_sem, c0, c1, c2, c3, c4]) rfl ?_
           rw [FN.out]
           exact ⟨⟨none, 0, none, 0, none, 0⟩, rfl, pgO_none _, hB⟩)
    | ok u j =>
      have R0 : Hid (RsAt wr rb A c n j L 0 0 lf) := Lib.hid HRS.out
      obtain ⟨gl, ll, a1, a2, a3, rowg, b1, b2, b3, rowl, ha8, hgr, hch⟩ := HST.out
      obtain ⟨_, _, hAc, hc1, hc2⟩ := hgr.slice
      have hm : m = acc.length := by injection hAc
      subst hm
      have hc1' : acc.length ≤ c' := by injection hAc with _ _ e; omega
      have hc2' : c' ≤ maxLen := by injection hAc with _ _ e; omega
      have HR1 := Lib.hid (And.intro a1 (And.intro a2 (And.intro a3 (And.intro b1 (And.intro b2 b3)))))
      have RG := Lib.hid rowg
      have RL := Lib.hid rowl
      have GR0 := Lib.hid hgr
      have CH := Lib.hid hch
      obtain ⟨p0, p1, _, p3, p4, _⟩ := R0.out.cs
      have hLc := R0.out.hc
      have hL6 := R0.out.hL
      have hw1p := HW1.out
      clear HST HRS rowg rowl hgr hch hAc hc1 hc2 a1 a2 a3 b1 b2 b3
      by_cases hd : j < L.length
      · have hdi : (j : Int) < (L.length : Int) := by omega
        have hdd : decide ((j : Int) < (L.length : Int)) = true := decide_eq_true hdi
        go_wp2_with fail
        go_quiet (fail)
        go_wp2_with fail
        refine (rs_is ⟨#[112, 114, 111, 99]⟩ _ rb A c n j L 0 0 lf (R0.out.below (by repeat' (first | exact Below.refl _ _ | exact Nat.le_refl _ | (refine Below.alloc ?_ ?_ _) | (refine Below.setCell ?_ ?_ _) | (refine Below.drew ?_) | (refine below_drewN ?_ _) | assumption | (simp; done) | (simp; omega)))) (by decide)).mono ?_
        rintro e w4 ⟨rfl, b4⟩
        rw [kd1]
        have B4 : Hid (Below wr.heap.size wr w4) := Lib.hid (below_then (by repeat' (first | exact Below.refl _ _ | exact Nat.le_refl _ | (refine Below.alloc ?_ ?_ _) | (refine Below.setCell ?_ ?_ _) | (refine Below.drew ?_) | (refine below_drewN ?_ _) | assumption | (simp; done) | (simp; omega))) b4)
        have R4 := Lib.hid (R0.out.below B4.out)
        have K4 : Hid (KeepR rb w1 w4) := Lib.hid (K0.out.trans' (KeepR.of_below' B4.out))
        have V4 := Lib.hid ((B4.out.block pb hpr).trans V0.out)
        have GR := GR0
        clear b4 p0 p1 p3 p4 K0 V0 hdd hdi
        by_cases hpt : tx L j = ⟨#[112, 114, 111, 99]⟩
        · rw [decide_eq_true hpt]
          obtain ⟨dd0, dd1, dd2, _, _, _⟩ := box3 V4.out
          by_cases h8 : acc.length = 8
          · have h8i : ((acc.length : Int) == 8) = true := by rw [beq_iff_eq]; omega
            obtain ⟨gq, hgq⟩ : ∃ gq : Got Unit, gq = .bad 5 (posAt L n j) := ⟨_, rfl⟩
            have NX : Hid (NextOf L n (rdGX L n g0) gl ll acc j (gq.bind fun _ i => procG L n i)) := Lib.hid (by rw [hgq]; show rdGX L n g0 = .bad 5 (posAt L n j); rw [CH.out, h8, prR_full hd hpt]; rfl)
            clear h8 hpt
            go_wp2_with fail
            refine (rs_bad 5 _ rb A c n j L 0 lf R4.out).mono ?_
            rintro e w5 ⟨rfl, r5, k5⟩
            have RQ : Hid (RsSt w5 rb A c n L gq lf) := Lib.hid (by rw [hgq]; exact ⟨by decide, j, r5⟩)
            have K5 : Hid (KeepR rb w1 w5) := Lib.hid (K4.out.trans' k5)
            have Q5 : Hid (KeepR rb wr w5) := Lib.hid (Keep.trans (KeepR.of_below' B4.out) k5 (fun _ _ h => h))
            have V5 := Lib.hid ((k5.block pb (lt_of_block V4.out) hnpr).trans V4.out)
            clear r5 k5 K4 V4 R4 B4 dd0 dd1 dd2 hgq
            go_wp2_with fail
            refine (rs_takeG ⟨#[112, 114, 111, 99]⟩ (by decide) _ rb A c n L lf gq RQ.out).mono ?_
            rintro e w6 ⟨rfl, k6, r6⟩
            have R6 := Lib.hid r6
            have K6 : Hid (KeepR rb w1 w6) := Lib.hid (K5.out.trans' k6)
            have Q6 : Hid (KeepR rb wr w6) := Lib.hid (Q5.out.trans' k6)
            have V6 := Lib.hid ((k6.block pb (lt_of_block V5.out) hnpr).trans V5.out)
            clear k6 r6 RQ K5 Q5 V5
            go_wp2_with fail
            refine (rs_nameG _ rb A c n L lf _ HS.out R6.out).mono ?_
            rintro e w7 ⟨t, rfl, k7, r7, ht⟩
            have HT := Lib.hid ht
            have K7 : Hid (KeepR rb w1 w7) := Lib.hid (K6.out.trans' k7)
            have Q7 : Hid (KeepR rb wr w7) := Lib.hid (Q6.out.trans' k7)
            have V7 := Lib.hid ((k7.block pb (lt_of_block V6.out) hnpr).trans V6.out)
            have R7 := Lib.hid r7
            clear k7 r7 ht R6 K6 Q6 V6
            have B8 : Hid (Below w7.heap.size w7 (w7.alloc (.cells #[.string t, .slice none 0 0] 46))) := Lib.hid (Below.alloc (Below.refl _ _) (Nat.le_refl _) _)
            have X8 : Hid ((w7.alloc (.cells #[.string t, .slice none 0 0] 46)).heap[w7.heap.size]? = some (.cells #[.string t, .slice none 0 0] 46 (0, 0))) := Lib.hid (heap_alloc_new _ _)
            have R8 := Lib.hid (R7.out.below B8.out)
            have K8 : Hid (KeepR rb w1 (w7.alloc (.cells #[.string t, .slice none 0 0] 46))) := Lib.hid (K7.out.trans' (KeepR.of_below' B8.out))
            have Q8 : Hid (KeepR rb wr (w7.alloc (.cells #[.string t, .slice none 0 0] 46))) := Lib.hid (Q7.out.trans' (KeepR.of_below' B8.out))
            have V8 := Lib.hid ((B8.out.block pb (lt_of_block V7.out)).trans V7.out)
            have hsz7 : wr.heap.size ≤ w7.heap.size := Q7.out.size
            have hz8 : (w7.alloc (.cells #[.string t, .slice none 0 0] 46)).heap.size = w7.heap.size + 1 := by simp
            go_wp2_with fail
            obtain ⟨w8, hw8⟩ : ∃ w8, w7.alloc (.cells #[.string t, .slice none 0 0] 46) = w8 := ⟨_, rfl⟩
            rw [hw8] at X8 R8 K8 Q8 V8 hz8 ⊢
            obtain ⟨g6, hg6⟩ : ∃ g, w7.heap.size = g := ⟨_, rfl⟩
            rw [hg6] at X8 hsz7 hz8 ⊢
            have hn6r : ¬ g6 = rb := by omega
            have hn6p : ¬ g6 = pb := by omega
            have hnp6 : ¬ pb = g6 := by omega
            have hnr6 : ¬ rb = g6 := by omega
            have HG6 : Hid (wr.heap.size ≤ g6) := Lib.hid hsz7
            clear hw8 hg6 B8 R7 K7 Q7 V7
            refine (rs_takeG ⟨#[123]⟩ (by decide) _ rb A c n L lf _ R8.out).mono ?_
            rintro e w9 ⟨rfl, k9, r9⟩
            have R9 := Lib.hid r9
            have K9 : Hid (KeepR rb w1 w9) := Lib.hid (K8.out.trans' k9)
            have Q9 : Hid (KeepR rb wr w9) := Lib.hid (Q8.out.trans' k9)
            have V9 := Lib.hid ((k9.block pb (lt_of_block V8.out) hnpr).trans V8.out)
            have X9 := Lib.hid ((k9.block g6 (lt_of_block X8.out) hn6r).trans X8.out)
            clear k9 r9 R8 K8 Q8 V8 X8
            have f5 := R9.out.fz 5
            have c5 := R9.out.c5
            have hrb9 := R9.out.lt
            have R10 := Lib.hid (R9.out.setl 60)
            have K10 := Lib.hid (KeepR.setr K9.out (o := 5) (.int .i64 60))
            have Q10 := Lib.hid (KeepR.setr Q9.out (o := 5) (.int .i64 60))
            have V10 := Lib.hid ((Below.heap_setCell w9 ⟨rb, 5, none⟩ (.int .i64 60) pb hnpr).trans V9.out)
            have X10 := Lib.hid ((Below.heap_setCell w9 ⟨rb, 5, none⟩ (.int .i64 60) g6 hn6r).trans X9.out)
            go_wp2_with fail
            obtain ⟨w10, hw10⟩ : ∃ w10, w9.setCell ⟨rb, 5, none⟩ (.int .i64 60) = w10 := ⟨_, rfl⟩
            rw [hw10] at R10 K10 Q10 V10 X10 ⊢
            clear hw10 R9 K9 Q9 V9 X9 f5 c5 hrb9
            refine (rs_stmtsG _ rb A c n L _ HS.out (fun b o e => Nat.lt_of_lt_of_le (HA.out b o e) K10.out.size) R10.out).mono ?_
            rintro e w11 ⟨k11, bA, bm, bc, lf', rfl, r11, hss⟩
            have R11 := Lib.hid r11
            have HSS := Lib.hid hss
            have K11 : Hid (KeepR rb w1 w11) := Lib.hid (K10.out.trans' k11)
            have Q11 : Hid (KeepR rb wr w11) := Lib.hid (Q10.out.trans' k11)
            have V11 := Lib.hid ((k11.block pb (lt_of_block V10.out) hnpr).trans V10.out)
            have X11 := Lib.hid ((k11.block g6 (lt_of_block X10.out) hn6r).trans X10.out)
            have hs10 : Hid (g6 < w10.heap.size) := Lib.hid (lt_of_block X10.out)
            clear k11 r11 hss R10 K10 Q10 V10 X10
            obtain ⟨x0, x1, y0, y1⟩ := prc2R X11.out
            have hz11 := lt_of_block X11.out
            have R12 := Lib.hid (R11.out.setg (b := g6) hn6r (fun b o e => by have := HA.out b o e; have := HG6.out; have := HWR.out; omega) 1 (.slice bA bm bc))
            have K12 := Lib.hid (KeepR.setg K11.out (g := g6) (o := 1) (by have := HG6.out; have := HWR.out; omega) (.slice bA bm bc))
            have Q12 := Lib.hid (KeepR.setg Q11.out (g := g6) (o := 1) HG6.out (.slice bA bm bc))
            have V12 := Lib.hid ((Below.heap_setCell w11 ⟨g6, 1, none⟩ (.slice bA bm bc) pb hnp6).trans V11.out)
            have X12 : Hid ((w11.setCell ⟨g6, 1, none⟩ (.slice bA bm bc)).heap[g6]? = some (.cells #[.string t, .slice bA bm bc] 46 (0, 0))) := Lib.hid (set2_1 X11.out _)
            have HROW : Hid (∀ F a p, StRowO w11 F a p → (∀ b, F b → b ≠ g6) → StRowO (w11.setCell ⟨g6, 1, none⟩ (.slice bA bm bc)) F a p) := Lib.hid (fun F a p h hF => h.keep fun b hb => Below.heap_setCell w11 ⟨g6, 1, none⟩ _ b (hF b hb))
            have hz12 : (w11.setCell ⟨g6, 1, none⟩ (.slice bA bm bc)).heap.size = w11.heap.size := by simp
            go_wp2_with fail
            obtain ⟨w12, hw12⟩ : ∃ w12, w11.setCell ⟨g6, 1, none⟩ (.slice bA bm bc) = w12 := ⟨_, rfl⟩
            rw [hw12] at R12 K12 Q12 V12 X12 HROW hz12 ⊢
            clear hw12 R11 K11 Q11 V11 X11 x0 x1 y0 y1 hz11
            refine (rs_takeG ⟨#[125]⟩ (by decide) _ rb A c n L lf' _ R12.out).mono ?_
            rintro e w13 ⟨rfl, k13, r13⟩
            have K13 : Hid (KeepR rb w1 w13) := Lib.hid (K12.out.trans' k13)
            have Q13 : Hid (KeepR rb wr w13) := Lib.hid (Q12.out.trans' k13)
            have V13 := Lib.hid ((k13.block pb (lt_of_block V12.out) hnpr).trans V12.out)
            have X13 := Lib.hid ((k13.block g6 (lt_of_block X12.out) hn6r).trans X12.out)
            have R13 := Lib.hid r13
            have HPR : Hid (∀ p q, thenTk L n ⟨#[125]⟩ (thenSs L n (thenTk L n ⟨#[123]⟩ (thenNm L n (thenTk L n ⟨#[112, 114, 111, 99]⟩ gq)))) = .ok p q → PrO w13 (Made wr w13) ⟨t, bA, bm, bc⟩ p) := Lib.hid (fun p q h => by
              obtain ⟨i4, h4⟩ := thenTk_inv h
              obtain ⟨e1, e2, e3, row, i3, h3⟩ := HSS.out _ _ h4
              obtain ⟨i2, h2⟩ := thenTk_inv h3
              obtain ⟨e5, e6⟩ := HT.out _ _ h2
              have hs := hs10.out
              have hwr := HG6.out
              have hk := k13.size
              refine ⟨e5, e1, e6, by show p.body.length ≤ bc; omega, e3, ((HROW.out _ _ _ row (fun b hb => by have := hb.1; omega)).keep (fun b hb => k13.block b (by have := hb.2; omega) (by have := hb.1; omega))).sub (fun b hb => ⟨by have := hb.1; omega, by have := hb.2; omega⟩)⟩)
            rw [procG_steps] at R13 HPR
            clear k13 r13 R12 K12 Q12 V12 X12 HROW hz12 HSS HT
            obtain ⟨d0, d1, d2, e0, e1, e2⟩ := box3 V13.out
            obtain ⟨x0, x1, _, _⟩ := prc2R X13.out
            have hz4 := lt_of_block V13.out
            have hz6 := lt_of_block X13.out
            obtain ⟨xs, G, hxl, ow, hG, hd, hx⟩ := GR.out
            have OW := Lib.hid (ow.keep Q13.out (fun b hb => by show b ≠ rb; have := (ow.lt b hb).1; omega)).own
            have OX := Lib.hid ow
            have HX := Lib.hid (And.intro hxl (And.intro hG (And.intro hd hx)))
            clear ow hxl hG hd hx
            go_wp2_with (at_builtin; refine wpList_appG_new w13.heap.size rfl rfl _ _ _ rfl prT OW.out _ 1 rfl rfl rfl (by simp [Value.oneCell']) (by simp only [maxLen]; omega) (by omega) ?_; intro v7 w14 own7 gr7; obtain ⟨A7, m7, c7, hv7⟩ := own7.slice3; subst hv7; have hwz7 := gr7.keep.size; have OKB : Hid (∀ b, b < wl.heap.size → (.slice A' acc.length c' : Value).ownBlock ≠ some b) := Lib.hid fun b hb e => by { have := OX.out.lt b e; omega }; have BG : Hid (Keep (fun b => b < wl.heap.size) w13 w14) := Lib.hid (gr7.keep.mono fun b _ hb => OKB.out b hb); have V14 := Lib.hid ((BG.out.block pb hz4 (by omega)).trans V13.out); obtain ⟨h0', h1', h2', i0, i1, i2⟩ := box3 V14.out; have hz47 := lt_of_block V14.out)
            have R14 : Hid (RsSt w14 rb A c n L (gq.bind fun _ i => procG L n i) lf') := Lib.hid (R13.out.keepS BG.out (by show rb < wl.heap.size; omega) (fun b o e => ⟨by have := HA.out b o e; show b < wl.heap.size; omega, Nat.lt_of_lt_of_le (HA.out b o e) K13.out.size⟩))
            have K14 : Hid (KeepR rb w1 w14) := Lib.hid (K13.out.trans BG.out (fun b hb _ => by show b < wl.heap.size; omega))
            have GN7 : Hid (∀ p, PrO w13 (Made wr w13) ⟨t, bA, bm, bc⟩ p → GrwP wl.heap.size w14 (.slice A7 m7 c7) (acc ++ [p])) := Lib.hid (fun p hp => grwp_app (S := fun b => b ≠ rb) HX.out.1 OX.out HX.out.2.1 HX.out.2.2.1 HX.out.2.2.2 Q13.out (fun b hb _ => by show b ≠ rb; omega) hp own7 gr7)
            have ROWS : Hid (∀ (F : Nat → Prop), (∀ b, F b → b < wl.heap.size ∧ b < wr.heap.size ∧ b ≠ rb) → ∀ b, F b → w14.heap[b]? = wr.heap[b]?) := Lib.hid (fun F hF b hb => (BG.out.block b (Nat.lt_of_lt_of_le (hF b hb).2.1 Q13.out.size) (hF b hb).1).trans (Q13.out.block b (hF b hb).2.1 (hF b hb).2.2))
            have R15 := Lib.hid (R14.out.setg (b := pb) hnpr (fun b o e => by have := HA.out b o e; omega) 2 (.slice A7 m7 c7))
            have K15 := Lib.hid (KeepR.setg K14.out (g := pb) (o := 2) (by omega) (.slice A7 m7 c7))
            have V15 : Hid ((w14.setCell ⟨pb, 2, none⟩ (.slice A7 m7 c7)).heap[pb]? = some (.cells #[.slice gA gm gc, .slice lA lm lc, .slice A7 m7 c7] 25 (0, 0))) := Lib.hid (s3_2 V14.out _)
            have BS : Hid (∀ b, b ≠ pb → (w14.setCell ⟨pb, 2, none⟩ (.slice A7 m7 c7)).heap[b]? = w14.heap[b]?) := Lib.hid (fun b hb => Below.heap_setCell w14 ⟨pb, 2, none⟩ _ b hb)
            have hz15 : (w14.setCell ⟨pb, 2, none⟩ (.slice A7 m7 c7)).heap.size = w14.heap.size := by simp
            have hz14 : wl.heap.size ≤ w14.heap.size := by have := Q13.out.size; omega
            have GRK : Hid (∀ v l, GrwP wl.heap.size w14 v l → GrwP wl.heap.size (w14.setCell ⟨pb, 2, none⟩ (.slice A7 m7 c7)) v l) := Lib.hid (fun v l h => h.keep (S := fun b => b ≠ pb) (Keep.setCell (Keep.refl _ _) (p := ⟨pb, 2, none⟩) (by simp) _) (fun b hb _ => by show b ≠ pb; omega))
            clear own7 gr7 h0' h1' h2' i0 i1 i2
            go_wp2_with fail
            go_roundw
            case rel =>
              obtain ⟨wN, hwN⟩ : ∃ wN, w14.setCell ⟨pb, 2, none⟩ (.slice A7 m7 c7) = wN := ⟨_, rfl⟩
              rw [hwN] at R15 K15 V15 BS GRK hz15 ⊢
              have hnx := NX.out
              have hr := R15.out
              cases hgq : gq.bind fun _ i => procG L n i with
              | bad fc fp =>
                rw [hgq] at hnx hr
                exact ⟨acc, .bad fc fp, lf', A7, m7, c7, Lib.hid ⟨hr, K15.out, V15.out, by omega, hr.1, hnx⟩⟩
              | ok p q =>
                rw [hgq] at hnx hr
                have kG : ∀ b, (w1.heap.size ≤ b ∧ b < pb) → wN.heap[b]? = wr.heap[b]? := fun b hb => (BS.out b (by omega)).trans (ROWS.out (fun b => w1.heap.size ≤ b ∧ b < pb) (fun b hb => ⟨by omega, by omega, by omega⟩) b hb)
                have kL : ∀ b, (pb + 1 ≤ b ∧ b < wl.heap.size) → wN.heap[b]? = wr.heap[b]? := fun b hb => (BS.out b (by omega)).trans (ROWS.out (fun b => pb + 1 ≤ b ∧ b < wl.heap.size) (fun b hb => ⟨by omega, by omega, by omega⟩) b hb)
                obtain ⟨a1, a2, a3, b1, b2, b3⟩ := HR1.out
                have hgn := GRK.out _ _ (GN7.out p (HPR.out p q hgq))
                have hst : PgSt wl wN L n (rdGX L n g0) w1.heap.size pb gA gm gc lA lm lc (acc ++ [p]) (.slice A7 m7 c7) (.ok () q) :=
                  ⟨gl, ll, a1, a2, a3, RG.out.keep kG, b1, b2, b3, RL.out.keep kL, by have := hnx.1; simp only [List.length_append, List.length_cons, List.length_nil]; omega, hgn, hnx.2.1⟩
                exact ⟨acc ++ [p], .ok () q, lf', A7, m7, c7, Lib.hid ⟨hr, K15.out, V15.out, by omega, hst⟩⟩
            case measure =>
              have hnx := NX.out
              have hr := R15.out
              cases hgq : gq.bind fun _ i => procG L n i with
              | bad fc fp =>
                rw [hgq] at hr
                obtain ⟨hf, q, hr⟩ := hr
                rw [ms_bad hr hf, ms_ok R0.out]
                omega
              | ok p q =>
                rw [hgq] at hnx hr
                rw [ms_ok hr, ms_ok R0.out]
                have := hnx.2.2
                omega
          · have h8i : ((acc.length : Int) == 8) = false := beq_eq_false_iff_ne.2 (by omega)
            obtain ⟨gq, hgq⟩ : ∃ gq : Got Unit, gq = .ok () j := ⟨_, rfl⟩
            have NX : Hid (NextOf L n (rdGX L n g0) gl ll acc j (gq.bind fun _ i => procG L n i)) := Lib.hid (by rw [hgq]; exact next_of hd CH.out (fun h => by omega))
            have RQ : Hid (RsSt w4 rb A c n L gq lf) := Lib.hid (by rw [hgq]; exact R4.out)
            have K5 := K4
            have Q5 : Hid (KeepR rb wr w4) := Lib.hid (KeepR.of_below' B4.out)
            have V5 := V4
            clear hpt K4 V4 R4 B4 hgq
            go_wp2_with fail
            refine (rs_takeG ⟨#[112, 114, 111, 99]⟩ (by decide) _ rb A c n L lf gq RQ.out).mono ?_
            rintro e w6 ⟨rfl, k6, r6⟩
            have R6 := Lib.hid r6
            have K6 : Hid (KeepR rb w1 w6) := Lib.hid (K5.out.trans' k6)
            have Q6 : Hid (KeepR rb wr w6) := Lib.hid (Q5.out.trans' k6)
            have V6 := Lib.hid ((k6.block pb (lt_of_block V5.out) hnpr).trans V5.out)
            clear k6 r6 RQ K5 Q5 V5
            go_wp2_with fail
            refine (rs_nameG _ rb A c n L lf _ HS.out R6.out).mono ?_
            rintro e w7 ⟨t, rfl, k7, r7, ht⟩
            have HT := Lib.hid ht
            have K7 : Hid (KeepR rb w1 w7) := Lib.hid (K6.out.trans' k7)
            have Q7 : Hid (KeepR rb wr w7) := Lib.hid (Q6.out.trans' k7)
            have V7 := Lib.hid ((k7.block pb (lt_of_block V6.out) hnpr).trans V6.out)
            have R7 := Lib.hid r7
            clear k7 r7 ht R6 K6 Q6 V6
            have B8 : Hid (Below w7.heap.size w7 (w7.alloc (.cells #[.string t, .slice none 0 0] 46))) := Lib.hid (Below.alloc (Below.refl _ _) (Nat.le_refl _) _)
            have X8 : Hid ((w7.alloc (.cells #[.string t, .slice none 0 0] 46)).heap[w7.heap.size]? = some (.cells #[.string t, .slice none 0 0] 46 (0, 0))) := Lib.hid (heap_alloc_new _ _)
            have R8 := Lib.hid (R7.out.below B8.out)
            have K8 : Hid (KeepR rb w1 (w7.alloc (.cells #[.string t, .slice none 0 0] 46))) := Lib.hid (K7.out.trans' (KeepR.of_below' B8.out))
            have Q8 : Hid (KeepR rb wr (w7.alloc (.cells #[.string t, .slice none 0 0] 46))) := Lib.hid (Q7.out.trans' (KeepR.of_below' B8.out))
            have V8 := Lib.hid ((B8.out.block pb (lt_of_block V7.out)).trans V7.out)
            have hsz7 : wr.heap.size ≤ w7.heap.size := Q7.out.size
            have hz8 : (w7.alloc (.cells #[.string t, .slice none 0 0] 46)).heap.size = w7.heap.size + 1 := by simp
            go_wp2_with fail
            obtain ⟨w8, hw8⟩ : ∃ w8, w7.alloc (.cells #[.string t, .slice none 0 0] 46) = w8 := ⟨_, rfl⟩
            rw [hw8] at X8 R8 K8 Q8 V8 hz8 ⊢
            obtain ⟨g6, hg6⟩ : ∃ g, w7.heap.size = g := ⟨_, rfl⟩
            rw [hg6] at X8 hsz7 hz8 ⊢
            have hn6r : ¬ g6 = rb := by omega
            have hn6p : ¬ g6 = pb := by omega
            have hnp6 : ¬ pb = g6 := by omega
            have hnr6 : ¬ rb = g6 := by omega
            have HG6 : Hid (wr.heap.size ≤ g6) := Lib.hid hsz7
            clear hw8 hg6 B8 R7 K7 Q7 V7
            refine (rs_takeG ⟨#[123]⟩ (by decide) _ rb A c n L lf _ R8.out).mono ?_
            rintro e w9 ⟨rfl, k9, r9⟩
            have R9 := Lib.hid r9
            have K9 : Hid (KeepR rb w1 w9) := Lib.hid (K8.out.trans' k9)
            have Q9 : Hid (KeepR rb wr w9) := Lib.hid (Q8.out.trans' k9)
            have V9 := Lib.hid ((k9.block pb (lt_of_block V8.out) hnpr).trans V8.out)
            have X9 := Lib.hid ((k9.block g6 (lt_of_block X8.out) hn6r).trans X8.out)
            clear k9 r9 R8 K8 Q8 V8 X8
            have f5 := R9.out.fz 5
            have c5 := R9.out.c5
            have hrb9 := R9.out.lt
            have R10 := Lib.hid (R9.out.setl 60)
            have K10 := Lib.hid (KeepR.setr K9.out (o := 5) (.int .i64 60))
            have Q10 := Lib.hid (KeepR.setr Q9.out (o := 5) (.int .i64 60))
            have V10 := Lib.hid ((Below.heap_setCell w9 ⟨rb, 5, none⟩ (.int .i64 60) pb hnpr).trans V9.out)
            have X10 := Lib.hid ((Below.heap_setCell w9 ⟨rb, 5, none⟩ (.int .i64 60) g6 hn6r).trans X9.out)
            go_wp2_with fail
            obtain ⟨w10, hw10⟩ : ∃ w10, w9.setCell ⟨rb, 5, none⟩ (.int .i64 60) = w10 := ⟨_, rfl⟩
            rw [hw10] at R10 K10 Q10 V10 X10 ⊢
            clear hw10 R9 K9 Q9 V9 X9 f5 c5 hrb9
            refine (rs_stmtsG _ rb A c n L _ HS.out (fun b o e => Nat.lt_of_lt_of_le (HA.out b o e) K10.out.size) R10.out).mono ?_
            rintro e w11 ⟨k11, bA, bm, bc, lf', rfl, r11, hss⟩
            have R11 := Lib.hid r11
            have HSS := Lib.hid hss
            have K11 : Hid (KeepR rb w1 w11) := Lib.hid (K10.out.trans' k11)
            have Q11 : Hid (KeepR rb wr w11) := Lib.hid (Q10.out.trans' k11)
            have V11 := Lib.hid ((k11.block pb (lt_of_block V10.out) hnpr).trans V10.out)
            have X11 := Lib.hid ((k11.block g6 (lt_of_block X10.out) hn6r).trans X10.out)
            have hs10 : Hid (g6 < w10.heap.size) := Lib.hid (lt_of_block X10.out)
            clear k11 r11 hss R10 K10 Q10 V10 X10
            obtain ⟨x0, x1, y0, y1⟩ := prc2R X11.out
            have hz11 := lt_of_block X11.out
            have R12 := Lib.hid (R11.out.setg (b := g6) hn6r (fun b o e => by have := HA.out b o e; have := HG6.out; have := HWR.out; omega) 1 (.slice bA bm bc))
            have K12 := Lib.hid (KeepR.setg K11.out (g := g6) (o := 1) (by have := HG6.out; have := HWR.out; omega) (.slice bA bm bc))
            have Q12 := Lib.hid (KeepR.setg Q11.out (g := g6) (o := 1) HG6.out (.slice bA bm bc))
            have V12 := Lib.hid ((Below.heap_setCell w11 ⟨g6, 1, none⟩ (.slice bA bm bc) pb hnp6).trans V11.out)
            have X12 : Hid ((w11.setCell ⟨g6, 1, none⟩ (.slice bA bm bc)).heap[g6]? = some (.cells #[.string t, .slice bA bm bc] 46 (0, 0))) := Lib.hid (set2_1 X11.out _)
            have HROW : Hid (∀ F a p, StRowO w11 F a p → (∀ b, F b → b ≠ g6) → StRowO (w11.setCell ⟨g6, 1, none⟩ (.slice bA bm bc)) F a p) := Lib.hid (fun F a p h hF => h.keep fun b hb => Below.heap_setCell w11 ⟨g6, 1, none⟩ _ b (hF b hb))
            have hz12 : (w11.setCell ⟨g6, 1, none⟩ (.slice bA bm bc)).heap.size = w11.heap.size := by simp
            go_wp2_with fail
            obtain ⟨w12, hw12⟩ : ∃ w12, w11.setCell ⟨g6, 1, none⟩ (.slice bA bm bc) = w12 := ⟨_, rfl⟩
            rw [hw12] at R12 K12 Q12 V12 X12 HROW hz12 ⊢
            clear hw12 R11 K11 Q11 V11 X11 x0 x1 y0 y1 hz11
            refine (rs_takeG ⟨#[125]⟩ (by decide) _ rb A c n L lf' _ R12.out).mono ?_
            rintro e w13 ⟨rfl, k13, r13⟩
            have K13 : Hid (KeepR rb w1 w13) := Lib.hid (K12.out.trans' k13)
            have Q13 : Hid (KeepR rb wr w13) := Lib.hid (Q12.out.trans' k13)
            have V13 := Lib.hid ((k13.block pb (lt_of_block V12.out) hnpr).trans V12.out)
            have X13 := Lib.hid ((k13.block g6 (lt_of_block X12.out) hn6r).trans X12.out)
            have R13 := Lib.hid r13
            have HPR : Hid (∀ p q, thenTk L n ⟨#[125]⟩ (thenSs L n (thenTk L n ⟨#[123]⟩ (thenNm L n (thenTk L n ⟨#[112, 114, 111, 99]⟩ gq)))) = .ok p q → PrO w13 (Made wr w13) ⟨t, bA, bm, bc⟩ p) := Lib.hid (fun p q h => by
              obtain ⟨i4, h4⟩ := thenTk_inv h
              obtain ⟨e1, e2, e3, row, i3, h3⟩ := HSS.out _ _ h4
              obtain ⟨i2, h2⟩ := thenTk_inv h3
              obtain ⟨e5, e6⟩ := HT.out _ _ h2
              have hs := hs10.out
              have hwr := HG6.out
              have hk := k13.size
              refine ⟨e5, e1, e6, by show p.body.length ≤ bc; omega, e3, ((HROW.out _ _ _ row (fun b hb => by have := hb.1; omega)).keep (fun b hb => k13.block b (by have := hb.2; omega) (by have := hb.1; omega))).sub (fun b hb => ⟨by have := hb.1; omega, by have := hb.2; omega⟩)⟩)
            rw [procG_steps] at R13 HPR
            clear k13 r13 R12 K12 Q12 V12 X12 HROW hz12 HSS HT
            obtain ⟨d0, d1, d2, e0, e1, e2⟩ := box3 V13.out
            obtain ⟨x0, x1, _, _⟩ := prc2R X13.out
            have hz4 := lt_of_block V13.out
            have hz6 := lt_of_block X13.out
            obtain ⟨xs, G, hxl, ow, hG, hd, hx⟩ := GR.out
            have OW := Lib.hid (ow.keep Q13.out (fun b hb => by show b ≠ rb; have := (ow.lt b hb).1; omega)).own
            have OX := Lib.hid ow
            have HX := Lib.hid (And.intro hxl (And.intro hG (And.intro hd hx)))
            clear ow hxl hG hd hx
            go_wp2_with (at_builtin; refine wpList_appG_new w13.heap.size rfl rfl _ _ _ rfl prT OW.out _ 1 rfl rfl rfl (by simp [Value.oneCell']) (by simp only [maxLen]; omega) (by omega) ?_; intro v7 w14 own7 gr7; obtain ⟨A7, m7, c7, hv7⟩ := own7.slice3; subst hv7; have hwz7 := gr7.keep.size; have OKB : Hid (∀ b, b < wl.heap.size → (.slice A' acc.length c' : Value).ownBlock ≠ some b) := Lib.hid fun b hb e => by { have := OX.out.lt b e; omega }; have BG : Hid (Keep (fun b => b < wl.heap.size) w13 w14) := Lib.hid (gr7.keep.mono fun b _ hb => OKB.out b hb); have V14 := Lib.hid ((BG.out.block pb hz4 (by omega)).trans V13.out); obtain ⟨h0', h1', h2', i0, i1, i2⟩ := box3 V14.out; have hz47 := lt_of_block V14.out)
            have R14 : Hid (RsSt w14 rb A c n L (gq.bind fun _ i => procG L n i) lf') := Lib.hid (R13.out.keepS BG.out (by show rb < wl.heap.size; omega) (fun b o e => ⟨by have := HA.out b o e; show b < wl.heap.size; omega, Nat.lt_of_lt_of_le (HA.out b o e) K13.out.size⟩))
            have K14 : Hid (KeepR rb w1 w14) := Lib.hid (K13.out.trans BG.out (fun b hb _ => by show b < wl.heap.size; omega))
            have GN7 : Hid (∀ p, PrO w13 (Made wr w13) ⟨t, bA, bm, bc⟩ p → GrwP wl.heap.size w14 (.slice A7 m7 c7) (acc ++ [p])) := Lib.hid (fun p hp => grwp_app (S := fun b => b ≠ rb) HX.out.1 OX.out HX.out.2.1 HX.out.2.2.1 HX.out.2.2.2 Q13.out (fun b hb _ => by show b ≠ rb; omega) hp own7 gr7)
            have ROWS : Hid (∀ (F : Nat → Prop), (∀ b, F b → b < wl.heap.size ∧ b < wr.heap.size ∧ b ≠ rb) → ∀ b, F b → w14.heap[b]? = wr.heap[b]?) := Lib.hid (fun F hF b hb => (BG.out.block b (Nat.lt_of_lt_of_le (hF b hb).2.1 Q13.out.size) (hF b hb).1).trans (Q13.out.block b (hF b hb).2.1 (hF b hb).2.2))
            have R15 := Lib.hid (R14.out.setg (b := pb) hnpr (fun b o e => by have := HA.out b o e; omega) 2 (.slice A7 m7 c7))
            have K15 := Lib.hid (KeepR.setg K14.out (g := pb) (o := 2) (by omega) (.slice A7 m7 c7))
            have V15 : Hid ((w14.setCell ⟨pb, 2, none⟩ (.slice A7 m7 c7)).heap[pb]? = some (.cells #[.slice gA gm gc, .slice lA lm lc, .slice A7 m7 c7] 25 (0, 0))) := Lib.hid (s3_2 V14.out _)
            have BS : Hid (∀ b, b ≠ pb → (w14.setCell ⟨pb, 2, none⟩ (.slice A7 m7 c7)).heap[b]? = w14.heap[b]?) := Lib.hid (fun b hb => Below.heap_setCell w14 ⟨pb, 2, none⟩ _ b hb)
            have hz15 : (w14.setCell ⟨pb, 2, none⟩ (.slice A7 m7 c7)).heap.size = w14.heap.size := by simp
            have hz14 : wl.heap.size ≤ w14.heap.size := by have := Q13.out.size; omega
            have GRK : Hid (∀ v l, GrwP wl.heap.size w14 v l → GrwP wl.heap.size (w14.setCell ⟨pb, 2, none⟩ (.slice A7 m7 c7)) v l) := Lib.hid (fun v l h => h.keep (S := fun b => b ≠ pb) (Keep.setCell (Keep.refl _ _) (p := ⟨pb, 2, none⟩) (by simp) _) (fun b hb _ => by show b ≠ pb; omega))
            clear own7 gr7 h0' h1' h2' i0 i1 i2
            go_wp2_with fail
            go_roundw
            case rel =>
              obtain ⟨wN, hwN⟩ : ∃ wN, w14.setCell ⟨pb, 2, none⟩ (.slice A7 m7 c7) = wN := ⟨_, rfl⟩
              rw [hwN] at R15 K15 V15 BS GRK hz15 ⊢
              have hnx := NX.out
              have hr := R15.out
              cases hgq : gq.bind fun _ i => procG L n i with
              | bad fc fp =>
                rw [hgq] at hnx hr
                exact ⟨acc, .bad fc fp, lf', A7, m7, c7, Lib.hid ⟨hr, K15.out, V15.out, by omega, hr.1, hnx⟩⟩
              | ok p q =>
                rw [hgq] at hnx hr
                have kG : ∀ b, (w1.heap.size ≤ b ∧ b < pb) → wN.heap[b]? = wr.heap[b]? := fun b hb => (BS.out b (by omega)).trans (ROWS.out (fun b => w1.heap.size ≤ b ∧ b < pb) (fun b hb => ⟨by omega, by omega, by omega⟩) b hb)
                have kL : ∀ b, (pb + 1 ≤ b ∧ b < wl.heap.size) → wN.heap[b]? = wr.heap[b]? := fun b hb => (BS.out b (by omega)).trans (ROWS.out (fun b => pb + 1 ≤ b ∧ b < wl.heap.size) (fun b hb => ⟨by omega, by omega, by omega⟩) b hb)
                obtain ⟨a1, a2, a3, b1, b2, b3⟩ := HR1.out
                have hgn := GRK.out _ _ (GN7.out p (HPR.out p q hgq))
                have hst : PgSt wl wN L n (rdGX L n g0) w1.heap.size pb gA gm gc lA lm lc (acc ++ [p]) (.slice A7 m7 c7) (.ok () q) :=
                  ⟨gl, ll, a1, a2, a3, RG.out.keep kG, b1, b2, b3, RL.out.keep kL, by have := hnx.1; simp only [List.length_append, List.length_cons, List.length_nil]; omega, hgn, hnx.2.1⟩
                exact ⟨acc ++ [p], .ok () q, lf', A7, m7, c7, Lib.hid ⟨hr, K15.out, V15.out, by omega, hst⟩⟩
            case measure =>
              have hnx := NX.out
              have hr := R15.out
              cases hgq : gq.bind fun _ i => procG L n i with
              | bad fc fp =>
                rw [hgq] at hr
                obtain ⟨hf, q, hr⟩ := hr
                rw [ms_bad hr hf, ms_ok R0.out]
                omega
              | ok p q =>
                rw [hgq] at hnx hr
                rw [ms_ok hr, ms_ok R0.out]
                have := hnx.2.2
                omega
        · rw [decide_eq_false hpt]
          obtain ⟨gq, hgq⟩ : ∃ gq : Got Unit, gq = .ok () j := ⟨_, rfl⟩
          have NX : Hid (NextOf L n (rdGX L n g0) gl ll acc j (gq.bind fun _ i => procG L n i)) := Lib.hid (by rw [hgq]; exact next_of hd CH.out (fun _ => hpt))
          have RQ : Hid (RsSt w4 rb A c n L gq lf) := Lib.hid (by rw [hgq]; exact R4.out)
          have K5 := K4
          have Q5 : Hid (KeepR rb wr w4) := Lib.hid (KeepR.of_below' B4.out)
          have V5 := V4
          clear hpt K4 V4 R4 B4 hgq
          go_wp2_with fail
          refine (rs_takeG ⟨#[112, 114, 111, 99]⟩ (by decide) _ rb A c n L lf gq RQ.out).mono ?_
          rintro e w6 ⟨rfl, k6, r6⟩
          have R6 := Lib.hid r6
          have K6 : Hid (KeepR rb w1 w6) := Lib.hid (K5.out.trans' k6)
          have Q6 : Hid (KeepR rb wr w6) := Lib.hid (Q5.out.trans' k6)
          have V6 := Lib.hid ((k6.block pb (lt_of_block V5.out) hnpr).trans V5.out)
          clear k6 r6 RQ K5 Q5 V5
          go_wp2_with fail
          refine (rs_nameG _ rb A c n L lf _ HS.out R6.out).mono ?_
          rintro e w7 ⟨t, rfl, k7, r7, ht⟩
          have HT := Lib.hid ht
          have K7 : Hid (KeepR rb w1 w7) := Lib.hid (K6.out.trans' k7)
          have Q7 : Hid (KeepR rb wr w7) := Lib.hid (Q6.out.trans' k7)
          have V7 := Lib.hid ((k7.block pb (lt_of_block V6.out) hnpr).trans V6.out)
          have R7 := Lib.hid r7
          clear k7 r7 ht R6 K6 Q6 V6
          have B8 : Hid (Below w7.heap.size w7 (w7.alloc (.cells #[.string t, .slice none 0 0] 46))) := Lib.hid (Below.alloc (Below.refl _ _) (Nat.le_refl _) _)
          have X8 : Hid ((w7.alloc (.cells #[.string t, .slice none 0 0] 46)).heap[w7.heap.size]? = some (.cells #[.string t, .slice none 0 0] 46 (0, 0))) := Lib.hid (heap_alloc_new _ _)
          have R8 := Lib.hid (R7.out.below B8.out)
          have K8 : Hid (KeepR rb w1 (w7.alloc (.cells #[.string t, .slice none 0 0] 46))) := Lib.hid (K7.out.trans' (KeepR.of_below' B8.out))
          have Q8 : Hid (KeepR rb wr (w7.alloc (.cells #[.string t, .slice none 0 0] 46))) := Lib.hid (Q7.out.trans' (KeepR.of_below' B8.out))
          have V8 := Lib.hid ((B8.out.block pb (lt_of_block V7.out)).trans V7.out)
          have hsz7 : wr.heap.size ≤ w7.heap.size := Q7.out.size
          have hz8 : (w7.alloc (.cells #[.string t, .slice none 0 0] 46)).heap.size = w7.heap.size + 1 := by simp
          go_wp2_with fail
          obtain ⟨w8, hw8⟩ : ∃ w8, w7.alloc (.cells #[.string t, .slice none 0 0] 46) = w8 := ⟨_, rfl⟩
          rw [hw8] at X8 R8 K8 Q8 V8 hz8 ⊢
          obtain ⟨g6, hg6⟩ : ∃ g, w7.heap.size = g := ⟨_, rfl⟩
          rw [hg6] at X8 hsz7 hz8 ⊢
          have hn6r : ¬ g6 = rb := by omega
          have hn6p : ¬ g6 = pb := by omega
          have hnp6 : ¬ pb = g6 := by omega
          have hnr6 : ¬ rb = g6 := by omega
          have HG6 : Hid (wr.heap.size ≤ g6) := Lib.hid hsz7
          clear hw8 hg6 B8 R7 K7 Q7 V7
          refine (rs_takeG ⟨#[123]⟩ (by decide) _ rb A c n L lf _ R8.out).mono ?_
          rintro e w9 ⟨rfl, k9, r9⟩
          have R9 := Lib.hid r9
          have K9 : Hid (KeepR rb w1 w9) := Lib.hid (K8.out.trans' k9)
          have Q9 : Hid (KeepR rb wr w9) := Lib.hid (Q8.out.trans' k9)
          have V9 := Lib.hid ((k9.block pb (lt_of_block V8.out) hnpr).trans V8.out)
          have X9 := Lib.hid ((k9.block g6 (lt_of_block X8.out) hn6r).trans X8.out)
          clear k9 r9 R8 K8 Q8 V8 X8
          have f5 := R9.out.fz 5
          have c5 := R9.out.c5
          have hrb9 := R9.out.lt
          have R10 := Lib.hid (R9.out.setl 60)
          have K10 := Lib.hid (KeepR.setr K9.out (o := 5) (.int .i64 60))
          have Q10 := Lib.hid (KeepR.setr Q9.out (o := 5) (.int .i64 60))
          have V10 := Lib.hid ((Below.heap_setCell w9 ⟨rb, 5, none⟩ (.int .i64 60) pb hnpr).trans V9.out)
          have X10 := Lib.hid ((Below.heap_setCell w9 ⟨rb, 5, none⟩ (.int .i64 60) g6 hn6r).trans X9.out)
          go_wp2_with fail
          obtain ⟨w10, hw10⟩ : ∃ w10, w9.setCell ⟨rb, 5, none⟩ (.int .i64 60) = w10 := ⟨_, rfl⟩
          rw [hw10] at R10 K10 Q10 V10 X10 ⊢
          clear hw10 R9 K9 Q9 V9 X9 f5 c5 hrb9
          refine (rs_stmtsG _ rb A c n L _ HS.out (fun b o e => Nat.lt_of_lt_of_le (HA.out b o e) K10.out.size) R10.out).mono ?_
          rintro e w11 ⟨k11, bA, bm, bc, lf', rfl, r11, hss⟩
          have R11 := Lib.hid r11
          have HSS := Lib.hid hss
          have K11 : Hid (KeepR rb w1 w11) := Lib.hid (K10.out.trans' k11)
          have Q11 : Hid (KeepR rb wr w11) := Lib.hid (Q10.out.trans' k11)
          have V11 := Lib.hid ((k11.block pb (lt_of_block V10.out) hnpr).trans V10.out)
          have X11 := Lib.hid ((k11.block g6 (lt_of_block X10.out) hn6r).trans X10.out)
          have hs10 : Hid (g6 < w10.heap.size) := Lib.hid (lt_of_block X10.out)
          clear k11 r11 hss R10 K10 Q10 V10 X10
          obtain ⟨x0, x1, y0, y1⟩ := prc2R X11.out
          have hz11 := lt_of_block X11.out
          have R12 := Lib.hid (R11.out.setg (b := g6) hn6r (fun b o e => by have := HA.out b o e; have := HG6.out; have := HWR.out; omega) 1 (.slice bA bm bc))
          have K12 := Lib.hid (KeepR.setg K11.out (g := g6) (o := 1) (by have := HG6.out; have := HWR.out; omega) (.slice bA bm bc))
          have Q12 := Lib.hid (KeepR.setg Q11.out (g := g6) (o := 1) HG6.out (.slice bA bm bc))
          have V12 := Lib.hid ((Below.heap_setCell w11 ⟨g6, 1, none⟩ (.slice bA bm bc) pb hnp6).trans V11.out)
          have X12 : Hid ((w11.setCell ⟨g6, 1, none⟩ (.slice bA bm bc)).heap[g6]? = some (.cells #[.string t, .slice bA bm bc] 46 (0, 0))) := Lib.hid (set2_1 X11.out _)
          have HROW : Hid (∀ F a p, StRowO w11 F a p → (∀ b, F b → b ≠ g6) → StRowO (w11.setCell ⟨g6, 1, none⟩ (.slice bA bm bc)) F a p) := Lib.hid (fun F a p h hF => h.keep fun b hb => Below.heap_setCell w11 ⟨g6, 1, none⟩ _ b (hF b hb))
          have hz12 : (w11.setCell ⟨g6, 1, none⟩ (.slice bA bm bc)).heap.size = w11.heap.size := by simp
          go_wp2_with fail
          obtain ⟨w12, hw12⟩ : ∃ w12, w11.setCell ⟨g6, 1, none⟩ (.slice bA bm bc) = w12 := ⟨_, rfl⟩
          rw [hw12] at R12 K12 Q12 V12 X12 HROW hz12 ⊢
          clear hw12 R11 K11 Q11 V11 X11 x0 x1 y0 y1 hz11
          refine (rs_takeG ⟨#[125]⟩ (by decide) _ rb A c n L lf' _ R12.out).mono ?_
          rintro e w13 ⟨rfl, k13, r13⟩
          have K13 : Hid (KeepR rb w1 w13) := Lib.hid (K12.out.trans' k13)
          have Q13 : Hid (KeepR rb wr w13) := Lib.hid (Q12.out.trans' k13)
          have V13 := Lib.hid ((k13.block pb (lt_of_block V12.out) hnpr).trans V12.out)
          have X13 := Lib.hid ((k13.block g6 (lt_of_block X12.out) hn6r).trans X12.out)
          have R13 := Lib.hid r13
          have HPR : Hid (∀ p q, thenTk L n ⟨#[125]⟩ (thenSs L n (thenTk L n ⟨#[123]⟩ (thenNm L n (thenTk L n ⟨#[112, 114, 111, 99]⟩ gq)))) = .ok p q → PrO w13 (Made wr w13) ⟨t, bA, bm, bc⟩ p) := Lib.hid (fun p q h => by
            obtain ⟨i4, h4⟩ := thenTk_inv h
            obtain ⟨e1, e2, e3, row, i3, h3⟩ := HSS.out _ _ h4
            obtain ⟨i2, h2⟩ := thenTk_inv h3
            obtain ⟨e5, e6⟩ := HT.out _ _ h2
            have hs := hs10.out
            have hwr := HG6.out
            have hk := k13.size
            refine ⟨e5, e1, e6, by show p.body.length ≤ bc; omega, e3, ((HROW.out _ _ _ row (fun b hb => by have := hb.1; omega)).keep (fun b hb => k13.block b (by have := hb.2; omega) (by have := hb.1; omega))).sub (fun b hb => ⟨by have := hb.1; omega, by have := hb.2; omega⟩)⟩)
          rw [procG_steps] at R13 HPR
          clear k13 r13 R12 K12 Q12 V12 X12 HROW hz12 HSS HT
          obtain ⟨d0, d1, d2, e0, e1, e2⟩ := box3 V13.out
          obtain ⟨x0, x1, _, _⟩ := prc2R X13.out
          have hz4 := lt_of_block V13.out
          have hz6 := lt_of_block X13.out
          obtain ⟨xs, G, hxl, ow, hG, hd, hx⟩ := GR.out
          have OW := Lib.hid (ow.keep Q13.out (fun b hb => by show b ≠ rb; have := (ow.lt b hb).1; omega)).own
          have OX := Lib.hid ow
          have HX := Lib.hid (And.intro hxl (And.intro hG (And.intro hd hx)))
          clear ow hxl hG hd hx
          go_wp2_with (at_builtin; refine wpList_appG_new w13.heap.size rfl rfl _ _ _ rfl prT OW.out _ 1 rfl rfl rfl (by simp [Value.oneCell']) (by simp only [maxLen]; omega) (by omega) ?_; intro v7 w14 own7 gr7; obtain ⟨A7, m7, c7, hv7⟩ := own7.slice3; subst hv7; have hwz7 := gr7.keep.size; have OKB : Hid (∀ b, b < wl.heap.size → (.slice A' acc.length c' : Value).ownBlock ≠ some b) := Lib.hid fun b hb e => by { have := OX.out.lt b e; omega }; have BG : Hid (Keep (fun b => b < wl.heap.size) w13 w14) := Lib.hid (gr7.keep.mono fun b _ hb => OKB.out b hb); have V14 := Lib.hid ((BG.out.block pb hz4 (by omega)).trans V13.out); obtain ⟨h0', h1', h2', i0, i1, i2⟩ := box3 V14.out; have hz47 := lt_of_block V14.out)
          have R14 : Hid (RsSt w14 rb A c n L (gq.bind fun _ i => procG L n i) lf') := Lib.hid (R13.out.keepS BG.out (by show rb < wl.heap.size; omega) (fun b o e => ⟨by have := HA.out b o e; show b < wl.heap.size; omega, Nat.lt_of_lt_of_le (HA.out b o e) K13.out.size⟩))
          have K14 : Hid (KeepR rb w1 w14) := Lib.hid (K13.out.trans BG.out (fun b hb _ => by show b < wl.heap.size; omega))
          have GN7 : Hid (∀ p, PrO w13 (Made wr w13) ⟨t, bA, bm, bc⟩ p → GrwP wl.heap.size w14 (.slice A7 m7 c7) (acc ++ [p])) := Lib.hid (fun p hp => grwp_app (S := fun b => b ≠ rb) HX.out.1 OX.out HX.out.2.1 HX.out.2.2.1 HX.out.2.2.2 Q13.out (fun b hb _ => by show b ≠ rb; omega) hp own7 gr7)
          have ROWS : Hid (∀ (F : Nat → Prop), (∀ b, F b → b < wl.heap.size ∧ b < wr.heap.size ∧ b ≠ rb) → ∀ b, F b → w14.heap[b]? = wr.heap[b]?) := Lib.hid (fun F hF b hb => (BG.out.block b (Nat.lt_of_lt_of_le (hF b hb).2.1 Q13.out.size) (hF b hb).1).trans (Q13.out.block b (hF b hb).2.1 (hF b hb).2.2))
          have R15 := Lib.hid (R14.out.setg (b := pb) hnpr (fun b o e => by have := HA.out b o e; omega) 2 (.slice A7 m7 c7))
          have K15 := Lib.hid (KeepR.setg K14.out (g := pb) (o := 2) (by omega) (.slice A7 m7 c7))
          have V15 : Hid ((w14.setCell ⟨pb, 2, none⟩ (.slice A7 m7 c7)).heap[pb]? = some (.cells #[.slice gA gm gc, .slice lA lm lc, .slice A7 m7 c7] 25 (0, 0))) := Lib.hid (s3_2 V14.out _)
          have BS : Hid (∀ b, b ≠ pb → (w14.setCell ⟨pb, 2, none⟩ (.slice A7 m7 c7)).heap[b]? = w14.heap[b]?) := Lib.hid (fun b hb => Below.heap_setCell w14 ⟨pb, 2, none⟩ _ b hb)
          have hz15 : (w14.setCell ⟨pb, 2, none⟩ (.slice A7 m7 c7)).heap.size = w14.heap.size := by simp
          have hz14 : wl.heap.size ≤ w14.heap.size := by have := Q13.out.size; omega
          have GRK : Hid (∀ v l, GrwP wl.heap.size w14 v l → GrwP wl.heap.size (w14.setCell ⟨pb, 2, none⟩ (.slice A7 m7 c7)) v l) := Lib.hid (fun v l h => h.keep (S := fun b => b ≠ pb) (Keep.setCell (Keep.refl _ _) (p := ⟨pb, 2, none⟩) (by simp) _) (fun b hb _ => by show b ≠ pb; omega))
          clear own7 gr7 h0' h1' h2' i0 i1 i2
          go_wp2_with fail
          go_roundw
          case rel =>
            obtain ⟨wN, hwN⟩ : ∃ wN, w14.setCell ⟨pb, 2, none⟩ (.slice A7 m7 c7) = wN := ⟨_, rfl⟩
            rw [hwN] at R15 K15 V15 BS GRK hz15 ⊢
            have hnx := NX.out
            have hr := R15.out
            cases hgq : gq.bind fun _ i => procG L n i with
            | bad fc fp =>
              rw [hgq] at hnx hr
              exact ⟨acc, .bad fc fp, lf', A7, m7, c7, Lib.hid ⟨hr, K15.out, V15.out, by omega, hr.1, hnx⟩⟩
            | ok p q =>
              rw [hgq] at hnx hr
              have kG : ∀ b, (w1.heap.size ≤ b ∧ b < pb) → wN.heap[b]? = wr.heap[b]? := fun b hb => (BS.out b (by omega)).trans (ROWS.out (fun b => w1.heap.size ≤ b ∧ b < pb) (fun b hb => ⟨by omega, by omega, by omega⟩) b hb)
              have kL : ∀ b, (pb + 1 ≤ b ∧ b < wl.heap.size) → wN.heap[b]? = wr.heap[b]? := fun b hb => (BS.out b (by omega)).trans (ROWS.out (fun b => pb + 1 ≤ b ∧ b < wl.heap.size) (fun b hb => ⟨by omega, by omega, by omega⟩) b hb)
              obtain ⟨a1, a2, a3, b1, b2, b3⟩ := HR1.out
              have hgn := GRK.out _ _ (GN7.out p (HPR.out p q hgq))
              have hst : PgSt wl wN L n (rdGX L n g0) w1.heap.size pb gA gm gc lA lm lc (acc ++ [p]) (.slice A7 m7 c7) (.ok () q) :=
                ⟨gl, ll, a1, a2, a3, RG.out.keep kG, b1, b2, b3, RL.out.keep kL, by have := hnx.1; simp only [List.length_append, List.length_cons, List.length_nil]; omega, hgn, hnx.2.1⟩
              exact ⟨acc ++ [p], .ok () q, lf', A7, m7, c7, Lib.hid ⟨hr, K15.out, V15.out, by omega, hst⟩⟩
          case measure =>
            have hnx := NX.out
            have hr := R15.out
            cases hgq : gq.bind fun _ i => procG L n i with
            | bad fc fp =>
              rw [hgq] at hr
              obtain ⟨hf, q, hr⟩ := hr
              rw [ms_bad hr hf, ms_ok R0.out]
              omega
            | ok p q =>
              rw [hgq] at hnx hr
              rw [ms_ok hr, ms_ok R0.out]
              have := hnx.2.2
              omega
      · have hdi : ¬ (j : Int) < (L.length : Int) := by omega
        have hdd : decide ((j : Int) < (L.length : Int)) = false := decide_eq_false hdi
        have Y22 := Lib.hid ((K0.out.block g2 hz21 hn2r).trans Y21.out)
        have Y32 := Lib.hid ((K0.out.block g3 hz1 hn3r).trans Y31.out)
        obtain ⟨d0, d1, d2, e0, e1, e2⟩ := box3 Y22.out
        obtain ⟨i0, i1, j0, j1⟩ := prc2R Y32.out
        obtain ⟨q0, q1, q2, _, _, _⟩ := box3 V0.out
        have hy2 := lt_of_block Y22.out
        have hy3 := lt_of_block Y32.out
        have FN : Hid (readP s = (⟨gl, ll, acc⟩, 0, 0)) := Lib.hid (by rw [FIN.out, CH.out, prR_end hd]; rfl)
        have BW : Hid (Below W0.heap.size W0 wr) := Lib.hid (KeepR.base K0.out BA2.out hrl)
        have hgm := HR1.out.1
        have hlm := HR1.out.2.2.2.1
        have PO : Hid (PgO wr (fun b => w1.heap.size ≤ b ∧ b < wr.heap.size) ⟨gA, gc, lA, lc, A', c'⟩ ⟨gl, ll, acc⟩) := Lib.hid (pgO_of RG.out RL.out GR0.out.row (by omega) (by omega) (by omega) (fun b hb => ⟨hb.1, hb.2.1⟩) (by omega) (by omega) (by omega) (by have := HR1.out.2.1; omega) HR1.out.2.2.1 (by have := HR1.out.2.2.2.2.1; omega) HR1.out.2.2.2.2.2 hc1' hc2')
        go_wp2_with fail
        go_quiet (fail)
        go_wp2_with fail
        obtain ⟨wq, hwq⟩ : ∃ wq, wr.drewN nq = wq := ⟨_, rfl⟩
        have BQ : Below wr.heap.size wr wq := by rw [← hwq]; exact (by repeat' (first | exact Below.refl _ _ | exact Nat.le_refl _ | (refine Below.alloc ?_ ?_ _) | (refine Below.setCell ?_ ?_ _) | (refine Below.drew ?_) | (refine below_drewN ?_ _) | assumption | (simp; done) | (simp; omega)))
        rw [hwq]
        have E := end5_a (w := wq) ((BQ.block g2 hy2).trans Y22.out) ((BQ.block g3 hy3).trans Y32.out) hn23 (.slice gA gl.length gc) (.slice lA ll.length lc) (.slice A' acc.length c') (.int .i64 0) (.int .i64 0)
        have hB := end5_below (g2 := g2) (g3 := g3) (below_then BW.out BQ) (by have := HG2.out; omega) (by have := HG3.out; omega) (.slice gA gl.length gc) (.slice lA ll.length lc) (.slice A' acc.length c') (.int .i64 0) (.int .i64 0)
        obtain ⟨W, hW⟩ : ∃ W, (((((wq.setCell ⟨g2, 0, none⟩ (.slice gA gl.length gc)).setCell ⟨g2, 1, none⟩ (.slice lA ll.length lc)).setCell ⟨g2, 2, none⟩ (.slice A' acc.length c')).setCell ⟨g3, 0, none⟩ (.int .i64 0)).setCell ⟨g3, 1, none⟩ (.int .i64 0)) = W := ⟨_, rfl⟩
        rw [hW] at E hB ⊢
        obtain ⟨c0, c1, c2, _, _, _⟩ := box3 E.p
        obtain ⟨c3, c4, _, _⟩ := prc2R E.q
        have hw0 := BA2.out.size
        have hzq := BQ.size
        have hzW := E.s
        refine bodyPost_ret (v := .tuple #[.agg #[.slice gA gl.length gc, .slice lA ll.length lc, .slice A' acc.length c'], .agg #[.int .i64 0, .int .i64 0]]) (by simp [results, Tryd.results4, go_sem, c0, c1, c2, c3, c4]) rfl ?_
        rw [FN.out]
        exact ⟨⟨gA, gc, lA, lc, A', c'⟩, rfl, (PO.out.keep fun b hb => (E.k b (by have := hb.1; omega) (by have := hb.1; omega)).trans (BQ.block b hb.2)).sub fun b hb => ⟨by have := hb.1; omega, by have := hb.2; omega⟩, hB⟩
end Go.Proofs.YtdanlgmpgdipnaaDoor
