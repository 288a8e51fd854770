/- A text's term in the reference. -/
import Derived.Test.YtefcdpkficojgaaDoorRsTerm2
import Derived.Test.YtefcdpkficojgaaDoorRsOk
namespace Go.Proofs.YtefcdpkficojgaaDoor
open Go.RowKit
set_option linter.unusedVariables false

theorem lexS_none (s : ByteArray) (n : Nat) : ∀ i acc, s.size - i ≤ n → ¬ (lexS s i acc).2.1 = 0 → (lexS s i acc).1 = [] := by
  induction n with
  | zero => intro i acc h h0; rw [lexS_end (by omega)] at h0; exact absurd rfl h0
  | succ n ih =>
    intro i acc h h0
    by_cases h1 : i < s.size
    · cases hb : blankB s[i] with
      | true => rw [lexS_blank h1 hb] at h0 ⊢; exact ih (i + 1) acc (by omega) h0
      | false =>
        cases ho : (signP s i h1).2.2 with
        | true =>
          rw [lexS_sign h1 hb ho] at h0 ⊢
          have hbd := signP_bd s i h1
          exact ih _ _ (by omega) h0
        | false => rw [lexS_bad h1 hb ho]
    · rw [lexS_end h1] at h0; exact absurd rfl h0
theorem lexR_len (s : ByteArray) : (lexR s).1.length ≤ 6000 := by
  by_cases hf : (lexR s).2.1 = 0
  · exact (lexR_ok hf).2.2
  · by_cases h : 6000 < s.size
    · rw [lexR_long h]; simp
    · rw [lexR_short h] at hf ⊢
      rw [lexS_none s _ 0 [] (Nat.le_refl _) hf]; simp
set_option maxHeartbeats 6400000 in
set_option maxRecDepth 100000 in
theorem spec_ReadTerm_of (ih : TsC 6) (s : ByteArray) (W0 : World) (hs : s.size ≤ 1048576) :
    Calls Tryd.prog 11 #[.string s] W0 fun e w' => ∃ k m t A l c, e = .returned (.tuple #[.agg #[.int .i64 k, .int .i64 m, .string t, .slice A l c], .agg #[.int .i64 (readT s).2.1, .int .i64 (readT s).2.2]]) ∧ TmO w' (Made W0 w') [.int .i64 k, .int .i64 m, .string t, .slice A l c] (readT s).1 ∧ Below W0.heap.size W0 w' := by
  have IH := Lib.hid ih
  clear ih
  go_enter Tryd.func11, Tryd.ntmps11
  go_wp2_with fail
  have BA : Below W0.heap.size W0 ((W0.alloc (.cells #[.int .i64 0, .int .i64 0, .string ByteArray.empty, .slice none 0 0] 24)).alloc (.cells #[.int .i64 0, .int .i64 0] 26)) := (by repeat' (first | exact Below.refl _ _ | exact Nat.le_refl _ | (refine Below.alloc ?_ ?_ _) | (refine Below.setCell ?_ ?_ _) | (refine Below.drew ?_) | (refine below_drewN ?_ _) | assumption | (simp; done) | (simp; omega)))
  refine (spec_l06New s _).mono ?_
  rintro e w1 ⟨rb, A, c, rfl, hrb, b1, hcell, hrd, hoff, hlc⟩
  have BA2 := Lib.hid (BA.trans (b1.mono BA.size))
  have HG0 : Hid (w1.heap[W0.heap.size]? = some (.cells #[.int .i64 0, .int .i64 0, .string ByteArray.empty, .slice none 0 0] 24 (0, 0))) := Lib.hid ((b1.block _ (by simp; omega)).trans ((heap_alloc_lt (by simp)).trans (heap_alloc_new _ _)))
  have HG1 : Hid (w1.heap[W0.heap.size + 1]? = some (.cells #[.int .i64 0, .int .i64 0] 26 (0, 0))) := Lib.hid ((b1.block _ (by simp)).trans (by have := heap_alloc_new (W0.alloc (.cells #[.int .i64 0, .int .i64 0, .string ⟨#[]⟩, .slice none 0 0] 24)) (.cells #[.int .i64 0, .int .i64 0] 26); simpa using this))
  have hrb2 : W0.heap.size + 2 ≤ rb := by simpa using hrb
  have hlt1 := lt_of_block hcell
  obtain ⟨g0, hg0⟩ : ∃ g, W0.heap.size = g := ⟨_, rfl⟩
  obtain ⟨g1, hg1⟩ : ∃ g, W0.heap.size + 1 = g := ⟨_, rfl⟩
  have hg0' : W0.heap.size ≤ g0 := by omega
  have hg1' : W0.heap.size ≤ g1 := by omega
  have hn0 : ¬ g0 = rb := by omega
  have hn1 : ¬ g1 = rb := by omega
  have hn2 : ¬ rb = g0 := by omega
  have hn3 : ¬ rb = g1 := by omega
  have hn4 : ¬ g0 = g1 := by omega
  have hn5 : ¬ g1 = g0 := by omega
  have hrl : W0.heap.size ≤ rb := by omega
  have HN4 : Hid (g0 ≠ g1) := Lib.hid hn4
  rw [hg0] at HG0 ⊢
  rw [hg1] at HG1
  have hg01 : g0 + 1 = g1 := by omega
  rw [hg01]
  have HGG : Hid (W0.heap.size = g0 ∧ g0 + 1 = g1) := Lib.hid ⟨hg0, hg01⟩
  have hgr : g1 < rb := by omega
  obtain ⟨fpn, hfpn⟩ := lexR_pos s
  obtain ⟨L, hL⟩ : ∃ L, (lexR s).1 = L := ⟨_, rfl⟩
  have HL := Lib.hid hL
  have HS : Hid (SgsOk L) := Lib.hid (by rw [← hL]; exact sgs_ok s)
  have hl6 := lexR_len s
  rw [hL] at hcell hrd hlc hl6
  rw [hfpn] at hcell
  have R1 : Hid (RsAt w1 rb A c s.size 0 L (lexR s).2.1 fpn 60) := Lib.hid ⟨hcell, hrd, fun b o e => by have := hoff b o e; omega, by omega, hl6, hlc⟩
  have HOF : Hid (∀ b o, A = some ⟨b, o, none⟩ → b < w1.heap.size) := Lib.hid (fun b o e => by have := hoff b o e; omega)
  clear hg0 hg1 hg01 BA hrb hrb2 hcell hrd hoff hlc hL b1
  by_cases hf : (lexR s).2.1 = 0
  · obtain ⟨hs6, hf2, _⟩ := lexR_ok hf
    have hfz : fpn = 0 := by rw [hf2] at hfpn; omega
    subst hfz
    rw [hf] at R1
    have HF := Lib.hid hf
    clear hf hf2 hfpn
    go_wp2_with fail
    have hcl := IH.out w1 rb A c s.size 0 L 60 HS.out HOF.out R1.out
    refine hcl.mono ?_
    clear hcl
    rintro e w2 ⟨hk2, tk, tm, ts, tA, tl, tc, rfl, hres⟩
    have HRES := Lib.hid hres
    have B2 : Hid (Below W0.heap.size W0 w2) := Lib.hid (KeepR.base hk2 BA2.out hrl)
    have HG0' : Hid (w2.heap[g0]? = some (.cells #[.int .i64 0, .int .i64 0, .string ByteArray.empty, .slice none 0 0] 24 (0, 0))) := Lib.hid ((hk2.block g0 (lt_of_block HG0.out) hn0).trans HG0.out)
    have HG1' : Hid (w2.heap[g1]? = some (.cells #[.int .i64 0, .int .i64 0] 26 (0, 0))) := Lib.hid ((hk2.block g1 (lt_of_block HG1.out) hn1).trans HG1.out)
    have h12 := hk2.size
    have hrb2 : rb < w2.heap.size := by omega
    clear HG0 HG1
    rename Hid (w2.heap[g0]? = some (.cells #[.int .i64 0, .int .i64 0, .string ByteArray.empty, .slice none 0 0] 24 (0, 0))) => HG0
    rename Hid (w2.heap[g1]? = some (.cells #[.int .i64 0, .int .i64 0] 26 (0, 0))) => HG1
    clear hk2 hres
    cases hgg : rdT L s.size 6 0 with
    | bad fc fp =>
      rw [hgg] at HRES
      obtain ⟨hfc, q, r2⟩ := HRES.out
      have R2 := Lib.hid r2
      have HFC := Lib.hid hfc
      have hfb : (fc != 0) = true := by rw [bne_iff_ne]; exact hfc
      have F := Lib.hid (readT_bad (s := s) HF.out (by rw [HL.out]; exact hgg))
      clear hgg hfc r2 HRES
      have HGB0 : Hid ((w2.alloc (.cells #[.int .i64 tk, .int .i64 tm, .string ts, .slice tA tl tc] 24)).heap[g0]? = some (.cells #[.int .i64 0, .int .i64 0, .string ByteArray.empty, .slice none 0 0] 24 (0, 0))) := Lib.hid ((heap_alloc_lt (lt_of_block HG0.out)).trans HG0.out)
      have HGB1 : Hid ((w2.alloc (.cells #[.int .i64 tk, .int .i64 tm, .string ts, .slice tA tl tc] 24)).heap[g1]? = some (.cells #[.int .i64 0, .int .i64 0] 26 (0, 0))) := Lib.hid ((heap_alloc_lt (lt_of_block HG1.out)).trans HG1.out)
      have HBX : Hid ((w2.alloc (.cells #[.int .i64 tk, .int .i64 tm, .string ts, .slice tA tl tc] 24)).heap[w2.heap.size]? = some (.cells #[.int .i64 tk, .int .i64 tm, .string ts, .slice tA tl tc] 24 (0, 0))) := Lib.hid (heap_alloc_new _ _)
      have BB : Hid (Below W0.heap.size W0 (w2.alloc (.cells #[.int .i64 tk, .int .i64 tm, .string ts, .slice tA tl tc] 24))) := Lib.hid (B2.out.alloc B2.out.size _)
      have KB : Hid (Below w2.heap.size w2 (w2.alloc (.cells #[.int .i64 tk, .int .i64 tm, .string ts, .slice tA tl tc] 24))) := Lib.hid (Below.alloc (Below.refl _ _) (Nat.le_refl _) _)
      go_wp2_with fail
      refine (rs_end_fault _ rb A c s.size q L fc fp 60 (R2.out.below KB.out) HFC.out).mono ?_
      rintro e w4 ⟨rfl, b4⟩
      have R4 := Lib.hid ((R2.out.below KB.out).below b4)
      have B4 : Hid (Below W0.heap.size W0 w4) := Lib.hid (BB.out.trans (b4.mono BB.out.size))
      have HG0' : Hid (w4.heap[g0]? = some (.cells #[.int .i64 0, .int .i64 0, .string ByteArray.empty, .slice none 0 0] 24 (0, 0))) := Lib.hid ((b4.block g0 (lt_of_block HGB0.out)).trans HGB0.out)
      have HG1' : Hid (w4.heap[g1]? = some (.cells #[.int .i64 0, .int .i64 0] 26 (0, 0))) := Lib.hid ((b4.block g1 (lt_of_block HGB1.out)).trans HGB1.out)
      clear b4
      clear HG0 HG1
      rename Hid (w4.heap[g0]? = some (.cells #[.int .i64 0, .int .i64 0, .string ByteArray.empty, .slice none 0 0] 24 (0, 0))) => HG0
      rename Hid (w4.heap[g1]? = some (.cells #[.int .i64 0, .int .i64 0] 26 (0, 0))) => HG1
      have p3 := R4.out.cs.2.2.2.1
      have p4 := R4.out.cs.2.2.2.2.1
      have a0 := Lib.frozen_of_heap HG0.out 0
      have a1 := Lib.frozen_of_heap HG0.out 1
      have a2 := Lib.frozen_of_heap HG0.out 2
      have a3 := Lib.frozen_of_heap HG0.out 3
      have d0 := Lib.frozen_of_heap HG1.out 0
      have d1 := Lib.frozen_of_heap HG1.out 1
      obtain ⟨v0, v1, v2, v3⟩ := term_cells HG0.out
      have e0 : w4.cell? ⟨g1, 0, none⟩ = some (.int .i64 0) := by rw [Lib.cell_of_heap HG1.out]; rfl
      have e1 : w4.cell? ⟨g1, 1, none⟩ = some (.int .i64 0) := by rw [Lib.cell_of_heap HG1.out]; rfl
      have hz0 := lt_of_block HG0.out
      have hz1 := lt_of_block HG1.out
      go_upto_region 5 with fail
      go_region_held3 (fun w' => w'.cell? ⟨rb, 3, none⟩ = some (.int .i64 fc) ∧ w'.cell? ⟨rb, 4, none⟩ = some (.int .i64 (fp : Int)) ∧ w'.frozen? ⟨g0, 0, none⟩ = false ∧ w'.frozen? ⟨g0, 1, none⟩ = false ∧ w'.frozen? ⟨g0, 2, none⟩ = false ∧ w'.frozen? ⟨g0, 3, none⟩ = false ∧ w'.frozen? ⟨g1, 0, none⟩ = false ∧ w'.frozen? ⟨g1, 1, none⟩ = false)
        (first | (refine ⟨?_, ?_, ?_, ?_, ?_, ?_, ?_, ?_⟩ <;> first | (with_reducible assumption) | (simp [World.cell?_setCell_other, hn0, hn1, hn2, hn3, p3, p4, a0, a1, a2, a3, d0, d1]; done)) | go_keep)
        (first | fail)
      obtain ⟨W, hW⟩ : ∃ W, (((((((w4.setCell ⟨g0, 0, none⟩ (.int .i64 0)).setCell ⟨g0, 1, none⟩ (.int .i64 0)).setCell ⟨g0, 2, none⟩ (.string ⟨#[]⟩)).setCell ⟨g0, 3, none⟩ (.slice none 0 0)).setCell ⟨g1, 0, none⟩ (.int .i64 fc)).setCell ⟨g1, 1, none⟩ (.int .i64 (fp : Int))).drew) = W := ⟨_, rfl⟩
      have hts := two_set HN4.out HG0.out HG1.out (.int .i64 0) (.int .i64 0) (.string ⟨#[]⟩) (.slice none 0 0) (.int .i64 fc) (.int .i64 (fp : Int))
      have hbl := two_below (n := W0.heap.size) (g0 := g0) (g1 := g1) B4.out (by omega) (by omega) (.int .i64 0) (.int .i64 0) (.string ⟨#[]⟩) (.slice none 0 0) (.int .i64 fc) (.int .i64 (fp : Int))
      rw [hW] at hts hbl ⊢
      obtain ⟨y0, y1, y2, y3⟩ := term_cells hts.1
      have y4 : W.cell? ⟨g1, 0, none⟩ = some (.int .i64 fc) := by rw [Lib.cell_of_heap hts.2]; rfl
      have y5 : W.cell? ⟨g1, 1, none⟩ = some (.int .i64 (fp : Int)) := by rw [Lib.cell_of_heap hts.2]; rfl
      clear v0 v1 v2 v3 a0 a1 a2 a3 d0 d1 e0 e1 p3 p4 hts hW
      go_wp2_with fail
      refine bodyPost_ret (v := .tuple #[.agg #[.int .i64 0, .int .i64 0, .string ⟨#[]⟩, .slice none 0 0], .agg #[.int .i64 fc, .int .i64 (fp : Int)]]) (by simp [results, Tryd.results11, go_sem, y0, y1, y2, y3, y4, y5]) rfl ?_
      rw [F.out]
      exact ⟨0, 0, ⟨#[]⟩, none, 0, 0, rfl, TmO.leaf (by unfold i64in; omega) (by unfold i64in; omega) (Nat.zero_le _), hbl⟩
    | ok t q =>
      rw [hgg] at HRES
      obtain ⟨tof, r2⟩ := HRES.out
      have R2 := Lib.hid r2
      have T2 : Hid (TmO w2 (Made w1 w2) [.int .i64 tk, .int .i64 tm, .string ts, .slice tA tl tc] t) := Lib.hid tof
      have HGX : Hid (rdT (lexR s).1 s.size 6 0 = .ok t q) := Lib.hid (by rw [HL.out]; exact hgg)
      clear r2 tof hgg HRES
      have HGB0 : Hid ((w2.alloc (.cells #[.int .i64 tk, .int .i64 tm, .string ts, .slice tA tl tc] 24)).heap[g0]? = some (.cells #[.int .i64 0, .int .i64 0, .string ByteArray.empty, .slice none 0 0] 24 (0, 0))) := Lib.hid ((heap_alloc_lt (lt_of_block HG0.out)).trans HG0.out)
      have HGB1 : Hid ((w2.alloc (.cells #[.int .i64 tk, .int .i64 tm, .string ts, .slice tA tl tc] 24)).heap[g1]? = some (.cells #[.int .i64 0, .int .i64 0] 26 (0, 0))) := Lib.hid ((heap_alloc_lt (lt_of_block HG1.out)).trans HG1.out)
      have HBX : Hid ((w2.alloc (.cells #[.int .i64 tk, .int .i64 tm, .string ts, .slice tA tl tc] 24)).heap[w2.heap.size]? = some (.cells #[.int .i64 tk, .int .i64 tm, .string ts, .slice tA tl tc] 24 (0, 0))) := Lib.hid (heap_alloc_new _ _)
      have BB : Hid (Below W0.heap.size W0 (w2.alloc (.cells #[.int .i64 tk, .int .i64 tm, .string ts, .slice tA tl tc] 24))) := Lib.hid (B2.out.alloc B2.out.size _)
      have KB : Hid (Below w2.heap.size w2 (w2.alloc (.cells #[.int .i64 tk, .int .i64 tm, .string ts, .slice tA tl tc] 24))) := Lib.hid (Below.alloc (Below.refl _ _) (Nat.le_refl _) _)
      go_wp2_with fail
      refine (rs_end_at _ rb A c s.size q L 0 60 (R2.out.below KB.out)).mono ?_
      rintro e w4 ⟨rfl, k4, hret⟩
      have K4 : Hid (KeepR rb (w2.alloc (.cells #[.int .i64 tk, .int .i64 tm, .string ts, .slice tA tl tc] 24)) w4) := Lib.hid k4
      have B4 : Hid (Below W0.heap.size W0 w4) := Lib.hid (KeepR.base k4 BB.out hrl)
      have HG0' : Hid (w4.heap[g0]? = some (.cells #[.int .i64 0, .int .i64 0, .string ByteArray.empty, .slice none 0 0] 24 (0, 0))) := Lib.hid ((k4.block g0 (lt_of_block HGB0.out) hn0).trans HGB0.out)
      have HG1' : Hid (w4.heap[g1]? = some (.cells #[.int .i64 0, .int .i64 0] 26 (0, 0))) := Lib.hid ((k4.block g1 (lt_of_block HGB1.out) hn1).trans HGB1.out)
      have HB4 : Hid (w4.heap[w2.heap.size]? = some (.cells #[.int .i64 tk, .int .i64 tm, .string ts, .slice tA tl tc] 24 (0, 0))) := Lib.hid ((k4.block _ (lt_of_block HBX.out) (by show w2.heap.size ≠ rb; omega)).trans HBX.out)
      have h24 : w2.heap.size < w4.heap.size := lt_of_block HB4.out
      clear k4
      clear HG0 HG1
      rename Hid (w4.heap[g0]? = some (.cells #[.int .i64 0, .int .i64 0, .string ByteArray.empty, .slice none 0 0] 24 (0, 0))) => HG0
      rename Hid (w4.heap[g1]? = some (.cells #[.int .i64 0, .int .i64 0] 26 (0, 0))) => HG1
      rcases hret with ⟨hq, r4⟩ | ⟨hq, r4⟩
      · have F := Lib.hid (readT_more (s := s) HF.out HGX.out (by rw [HL.out]; exact hq))
        have p3 := r4.cs.2.2.2.1
        have p4 := r4.cs.2.2.2.2.1
        obtain ⟨PP, hPP⟩ : ∃ PP, posAt L s.size q = PP := ⟨_, rfl⟩
        rw [HL.out, hPP] at F
        rw [hPP] at p4
        clear r4 hq hPP
        have a0 := Lib.frozen_of_heap HG0.out 0
        have a1 := Lib.frozen_of_heap HG0.out 1
        have a2 := Lib.frozen_of_heap HG0.out 2
        have a3 := Lib.frozen_of_heap HG0.out 3
        have d0 := Lib.frozen_of_heap HG1.out 0
        have d1 := Lib.frozen_of_heap HG1.out 1
        obtain ⟨v0, v1, v2, v3⟩ := term_cells HG0.out
        have e0 : w4.cell? ⟨g1, 0, none⟩ = some (.int .i64 0) := by rw [Lib.cell_of_heap HG1.out]; rfl
        have e1 : w4.cell? ⟨g1, 1, none⟩ = some (.int .i64 0) := by rw [Lib.cell_of_heap HG1.out]; rfl
        have hz0 := lt_of_block HG0.out
        have hz1 := lt_of_block HG1.out
        go_upto_region 5 with fail
        go_region_held3 (fun w' => w'.cell? ⟨rb, 3, none⟩ = some (.int .i64 3) ∧ w'.cell? ⟨rb, 4, none⟩ = some (.int .i64 (PP : Int)) ∧ w'.frozen? ⟨g0, 0, none⟩ = false ∧ w'.frozen? ⟨g0, 1, none⟩ = false ∧ w'.frozen? ⟨g0, 2, none⟩ = false ∧ w'.frozen? ⟨g0, 3, none⟩ = false ∧ w'.frozen? ⟨g1, 0, none⟩ = false ∧ w'.frozen? ⟨g1, 1, none⟩ = false)
          (first | (refine ⟨?_, ?_, ?_, ?_, ?_, ?_, ?_, ?_⟩ <;> first | (with_reducible assumption) | (simp [World.cell?_setCell_other, hn0, hn1, hn2, hn3, p3, p4, a0, a1, a2, a3, d0, d1]; done)) | go_keep)
          (first | fail)
        obtain ⟨W, hW⟩ : ∃ W, (((((((w4.setCell ⟨g0, 0, none⟩ (.int .i64 0)).setCell ⟨g0, 1, none⟩ (.int .i64 0)).setCell ⟨g0, 2, none⟩ (.string ⟨#[]⟩)).setCell ⟨g0, 3, none⟩ (.slice none 0 0)).setCell ⟨g1, 0, none⟩ (.int .i64 3)).setCell ⟨g1, 1, none⟩ (.int .i64 (PP : Int))).drew) = W := ⟨_, rfl⟩
        have hts := two_set HN4.out HG0.out HG1.out (.int .i64 0) (.int .i64 0) (.string ⟨#[]⟩) (.slice none 0 0) (.int .i64 3) (.int .i64 (PP : Int))
        have hbl := two_below (n := W0.heap.size) (g0 := g0) (g1 := g1) B4.out (by omega) (by omega) (.int .i64 0) (.int .i64 0) (.string ⟨#[]⟩) (.slice none 0 0) (.int .i64 3) (.int .i64 (PP : Int))
        rw [hW] at hts hbl ⊢
        obtain ⟨y0, y1, y2, y3⟩ := term_cells hts.1
        have y4 : W.cell? ⟨g1, 0, none⟩ = some (.int .i64 3) := by rw [Lib.cell_of_heap hts.2]; rfl
        have y5 : W.cell? ⟨g1, 1, none⟩ = some (.int .i64 (PP : Int)) := by rw [Lib.cell_of_heap hts.2]; rfl
        clear v0 v1 v2 v3 a0 a1 a2 a3 d0 d1 e0 e1 p3 p4 hts hW
        go_wp2_with fail
        refine bodyPost_ret (v := .tuple #[.agg #[.int .i64 0, .int .i64 0, .string ⟨#[]⟩, .slice none 0 0], .agg #[.int .i64 3, .int .i64 (PP : Int)]]) (by simp [results, Tryd.results11, go_sem, y0, y1, y2, y3, y4, y5]) rfl ?_
        rw [F.out]
        exact ⟨0, 0, ⟨#[]⟩, none, 0, 0, rfl, TmO.leaf (by unfold i64in; omega) (by unfold i64in; omega) (Nat.zero_le _), hbl⟩
      · have F := Lib.hid (readT_ok (s := s) HF.out HGX.out (by rw [HL.out]; exact hq))
        obtain ⟨x0, x1, x2, x3⟩ := term_cells HB4.out
        have hzb := lt_of_block HB4.out
        have p3 := r4.cs.2.2.2.1
        clear r4 hq
        have a0 := Lib.frozen_of_heap HG0.out 0
        have a1 := Lib.frozen_of_heap HG0.out 1
        have a2 := Lib.frozen_of_heap HG0.out 2
        have a3 := Lib.frozen_of_heap HG0.out 3
        have d0 := Lib.frozen_of_heap HG1.out 0
        have d1 := Lib.frozen_of_heap HG1.out 1
        obtain ⟨v0, v1, v2, v3⟩ := term_cells HG0.out
        have e0 : w4.cell? ⟨g1, 0, none⟩ = some (.int .i64 0) := by rw [Lib.cell_of_heap HG1.out]; rfl
        have e1 : w4.cell? ⟨g1, 1, none⟩ = some (.int .i64 0) := by rw [Lib.cell_of_heap HG1.out]; rfl
        have hz0 := lt_of_block HG0.out
        have hz1 := lt_of_block HG1.out
        go_wp2_with fail
        have hts := two_set HN4.out HG0.out HG1.out (.int .i64 tk) (.int .i64 tm) (.string ts) (.slice tA tl tc) (.int .i64 0) (.int .i64 0)
        have hbl := two_below (n := W0.heap.size) (g0 := g0) (g1 := g1) B4.out (by omega) (by omega) (.int .i64 tk) (.int .i64 tm) (.string ts) (.slice tA tl tc) (.int .i64 0) (.int .i64 0)
        obtain ⟨W, hW⟩ : ∃ W, (((((w4.setCell ⟨g0, 0, none⟩ (.int .i64 tk)).setCell ⟨g0, 1, none⟩ (.int .i64 tm)).setCell ⟨g0, 2, none⟩ (.string ts)).setCell ⟨g0, 3, none⟩ (.slice tA tl tc)).setCell ⟨g1, 0, none⟩ (.int .i64 0)).setCell ⟨g1, 1, none⟩ (.int .i64 0) = W := ⟨_, rfl⟩
        rw [hW] at hts hbl ⊢
        have ht0 : W.heap[g0]? = some (.cells #[.int .i64 tk, .int .i64 tm, .string ts, .slice tA tl tc] 24 (0, 0)) := hts.1
        have ht1 : W.heap[g1]? = some (.cells #[.int .i64 0, .int .i64 0] 26 (0, 0)) := hts.2
        have hbw : Below W0.heap.size W0 W := ⟨hbl.os, hbl.tape, hbl.output, hbl.size, hbl.block⟩
        obtain ⟨y0, y1, y2, y3⟩ := term_cells ht0
        have y4 : W.cell? ⟨g1, 0, none⟩ = some (.int .i64 0) := by rw [Lib.cell_of_heap ht1]; rfl
        have y5 : W.cell? ⟨g1, 1, none⟩ = some (.int .i64 0) := by rw [Lib.cell_of_heap ht1]; rfl
        have TW : TmO W (Made W0 W) [.int .i64 tk, .int .i64 tm, .string ts, .slice tA tl tc] t := by
          have hws : W.heap.size = w4.heap.size := by rw [← hW]; simp
          refine (T2.out.keep fun b hb => ?_).sub (fun b hb => ⟨by have := hb.1; have := HGG.out; omega, by have := hb.2; omega⟩)
          have h1 := hb.1
          have h2 := hb.2
          have h3 := HGG.out
          rw [← hW]
          refine ((Below.heap_setCell _ ⟨g1, 1, none⟩ _ b (by show b ≠ g1; omega)).trans (Below.heap_setCell _ ⟨g1, 0, none⟩ _ b (by show b ≠ g1; omega))).trans ?_
          refine (set4_block (by omega)).trans ?_
          exact (K4.out.block b (by simp; omega) (by show b ≠ rb; omega)).trans (heap_alloc_lt h2)
        clear v0 v1 v2 v3 a0 a1 a2 a3 d0 d1 e0 e1 hts hW ht0 ht1
        refine bodyPost_ret (v := .tuple #[.agg #[.int .i64 tk, .int .i64 tm, .string ts, .slice tA tl tc], .agg #[.int .i64 0, .int .i64 0]]) (by simp [results, Tryd.results11, go_sem, y0, y1, y2, y3, y4, y5]) rfl ?_
        rw [F.out]
        exact ⟨tk, tm, ts, tA, tl, tc, rfl, TW, hbw⟩
  · have F := Lib.hid (readT_lex hf)
    have HF := Lib.hid hf
    have hfb : ((lexR s).2.1 != 0) = true := by rw [bne_iff_ne]; exact hf
    rw [hfpn] at F
    obtain ⟨fc, hfc⟩ : ∃ x, (lexR s).2.1 = x := ⟨_, rfl⟩
    rw [hfc] at F HF hfb R1
    clear hf hfc hfpn
    go_wp2_with fail
    refine (rs_term_fault 6 _ rb A c s.size 0 L fc fpn 60 HOF.out R1.out HF.out).mono ?_
    rintro e w2 ⟨rfl, b2⟩
    have R2 := Lib.hid (R1.out.below b2)
    have B2 : Hid (Below W0.heap.size W0 w2) := Lib.hid (BA2.out.trans (b2.mono BA2.out.size))
    have HG0' : Hid (w2.heap[g0]? = some (.cells #[.int .i64 0, .int .i64 0, .string ByteArray.empty, .slice none 0 0] 24 (0, 0))) := Lib.hid ((b2.block g0 (lt_of_block HG0.out)).trans HG0.out)
    have HG1' : Hid (w2.heap[g1]? = some (.cells #[.int .i64 0, .int .i64 0] 26 (0, 0))) := Lib.hid ((b2.block g1 (lt_of_block HG1.out)).trans HG1.out)
    clear b2
    clear HG0 HG1
    rename Hid (w2.heap[g0]? = some (.cells #[.int .i64 0, .int .i64 0, .string ByteArray.empty, .slice none 0 0] 24 (0, 0))) => HG0
    rename Hid (w2.heap[g1]? = some (.cells #[.int .i64 0, .int .i64 0] 26 (0, 0))) => HG1
    have HGB0 : Hid ((w2.alloc (.cells #[.int .i64 0, .int .i64 0, .string ⟨#[]⟩, .slice none 0 0] 24)).heap[g0]? = some (.cells #[.int .i64 0, .int .i64 0, .string ByteArray.empty, .slice none 0 0] 24 (0, 0))) := Lib.hid ((heap_alloc_lt (lt_of_block HG0.out)).trans HG0.out)
    have HGB1 : Hid ((w2.alloc (.cells #[.int .i64 0, .int .i64 0, .string ⟨#[]⟩, .slice none 0 0] 24)).heap[g1]? = some (.cells #[.int .i64 0, .int .i64 0] 26 (0, 0))) := Lib.hid ((heap_alloc_lt (lt_of_block HG1.out)).trans HG1.out)
    have HBX : Hid ((w2.alloc (.cells #[.int .i64 0, .int .i64 0, .string ⟨#[]⟩, .slice none 0 0] 24)).heap[w2.heap.size]? = some (.cells #[.int .i64 0, .int .i64 0, .string ⟨#[]⟩, .slice none 0 0] 24 (0, 0))) := Lib.hid (heap_alloc_new _ _)
    have BB : Hid (Below W0.heap.size W0 (w2.alloc (.cells #[.int .i64 0, .int .i64 0, .string ⟨#[]⟩, .slice none 0 0] 24))) := Lib.hid (B2.out.alloc B2.out.size _)
    have KB : Hid (Below w2.heap.size w2 (w2.alloc (.cells #[.int .i64 0, .int .i64 0, .string ⟨#[]⟩, .slice none 0 0] 24))) := Lib.hid (Below.alloc (Below.refl _ _) (Nat.le_refl _) _)
    go_wp2_with fail
    refine (rs_end_fault _ rb A c s.size 0 L fc fpn 60 (R2.out.below KB.out) HF.out).mono ?_
    rintro e w4 ⟨rfl, b4⟩
    have R4 := Lib.hid ((R2.out.below KB.out).below b4)
    have B4 : Hid (Below W0.heap.size W0 w4) := Lib.hid (BB.out.trans (b4.mono BB.out.size))
    have HG0' : Hid (w4.heap[g0]? = some (.cells #[.int .i64 0, .int .i64 0, .string ByteArray.empty, .slice none 0 0] 24 (0, 0))) := Lib.hid ((b4.block g0 (lt_of_block HGB0.out)).trans HGB0.out)
    have HG1' : Hid (w4.heap[g1]? = some (.cells #[.int .i64 0, .int .i64 0] 26 (0, 0))) := Lib.hid ((b4.block g1 (lt_of_block HGB1.out)).trans HGB1.out)
    clear b4
    clear HG0 HG1
    rename Hid (w4.heap[g0]? = some (.cells #[.int .i64 0, .int .i64 0, .string ByteArray.empty, .slice none 0 0] 24 (0, 0))) => HG0
    rename Hid (w4.heap[g1]? = some (.cells #[.int .i64 0, .int .i64 0] 26 (0, 0))) => HG1
    have p3 := R4.out.cs.2.2.2.1
    have p4 := R4.out.cs.2.2.2.2.1
    have a0 := Lib.frozen_of_heap HG0.out 0
    have a1 := Lib.frozen_of_heap HG0.out 1
    have a2 := Lib.frozen_of_heap HG0.out 2
    have a3 := Lib.frozen_of_heap HG0.out 3
    have d0 := Lib.frozen_of_heap HG1.out 0
    have d1 := Lib.frozen_of_heap HG1.out 1
    obtain ⟨v0, v1, v2, v3⟩ := term_cells HG0.out
    have e0 : w4.cell? ⟨g1, 0, none⟩ = some (.int .i64 0) := by rw [Lib.cell_of_heap HG1.out]; rfl
    have e1 : w4.cell? ⟨g1, 1, none⟩ = some (.int .i64 0) := by rw [Lib.cell_of_heap HG1.out]; rfl
    have hz0 := lt_of_block HG0.out
    have hz1 := lt_of_block HG1.out
    go_upto_region 5 with fail
    go_region_held3 (fun w' => w'.cell? ⟨rb, 3, none⟩ = some (.int .i64 fc) ∧ w'.cell? ⟨rb, 4, none⟩ = some (.int .i64 (fpn : Int)) ∧ w'.frozen? ⟨g0, 0, none⟩ = false ∧ w'.frozen? ⟨g0, 1, none⟩ = false ∧ w'.frozen? ⟨g0, 2, none⟩ = false ∧ w'.frozen? ⟨g0, 3, none⟩ = false ∧ w'.frozen? ⟨g1, 0, none⟩ = false ∧ w'.frozen? ⟨g1, 1, none⟩ = false)
      (first | (refine ⟨?_, ?_, ?_, ?_, ?_, ?_, ?_, ?_⟩ <;> first | (with_reducible assumption) | (simp [World.cell?_setCell_other, hn0, hn1, hn2, hn3, p3, p4, a0, a1, a2, a3, d0, d1]; done)) | go_keep)
      (first | fail)
    obtain ⟨W, hW⟩ : ∃ W, (((((((w4.setCell ⟨g0, 0, none⟩ (.int .i64 0)).setCell ⟨g0, 1, none⟩ (.int .i64 0)).setCell ⟨g0, 2, none⟩ (.string ⟨#[]⟩)).setCell ⟨g0, 3, none⟩ (.slice none 0 0)).setCell ⟨g1, 0, none⟩ (.int .i64 fc)).setCell ⟨g1, 1, none⟩ (.int .i64 (fpn : Int))).drew) = W := ⟨_, rfl⟩
    have hts := two_set HN4.out HG0.out HG1.out (.int .i64 0) (.int .i64 0) (.string ⟨#[]⟩) (.slice none 0 0) (.int .i64 fc) (.int .i64 (fpn : Int))
    have hbl := two_below (n := W0.heap.size) (g0 := g0) (g1 := g1) B4.out (by omega) (by omega) (.int .i64 0) (.int .i64 0) (.string ⟨#[]⟩) (.slice none 0 0) (.int .i64 fc) (.int .i64 (fpn : Int))
    rw [hW] at hts hbl ⊢
    obtain ⟨y0, y1, y2, y3⟩ := term_cells hts.1
    have y4 : W.cell? ⟨g1, 0, none⟩ = some (.int .i64 fc) := by rw [Lib.cell_of_heap hts.2]; rfl
    have y5 : W.cell? ⟨g1, 1, none⟩ = some (.int .i64 (fpn : Int)) := by rw [Lib.cell_of_heap hts.2]; rfl
    clear v0 v1 v2 v3 a0 a1 a2 a3 d0 d1 e0 e1 p3 p4 hts hW
    go_wp2_with fail
    refine bodyPost_ret (v := .tuple #[.agg #[.int .i64 0, .int .i64 0, .string ⟨#[]⟩, .slice none 0 0], .agg #[.int .i64 fc, .int .i64 (fpn : Int)]]) (by simp [results, Tryd.results11, go_sem, y0, y1, y2, y3, y4, y5]) rfl ?_
    rw [F.out]
    exact ⟨0, 0, ⟨#[]⟩, none, 0, 0, rfl, TmO.leaf (by unfold i64in; omega) (by unfold i64in; omega) (Nat.zero_le _), hbl⟩
end Go.Proofs.YtefcdpkficojgaaDoor
