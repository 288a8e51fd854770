/- Several texts in one: RdTop. -/
import Derived.Test.YtefcdpkficojgaaDoorKb43
namespace Go.Proofs.YtefcdpkficojgaaDoor
open Go.RowKit
set_option linter.unusedVariables false


theorem lexS_small (s : ByteArray) (n : Nat) : ∀ i acc, s.size - i ≤ n → (∃ p : Nat, (lexS s i acc).2.2 = (p : Int)) ∧ ((lexS s i acc).2.1 = 0 → (lexS s i acc).2.2 = 0 ∧ (lexS s i acc).1.length ≤ acc.length + (s.size - i)) := by
  induction n with
  | zero => intro i acc h; rw [lexS_end (by omega)]; exact ⟨⟨0, rfl⟩, fun _ => ⟨rfl, by show acc.length ≤ _; omega⟩⟩
  | succ n ih =>
    intro i acc h
    by_cases h1 : i < s.size
    · cases hb : blankB s[i] with
      | true =>
        rw [lexS_blank h1 hb]
        obtain ⟨h2, h3⟩ := ih (i + 1) acc (by omega)
        exact ⟨h2, fun h4 => ⟨(h3 h4).1, by have := (h3 h4).2; omega⟩⟩
      | false =>
        cases ho : (signP s i h1).2.2 with
        | true =>
          rw [lexS_sign h1 hb ho]
          have hbd := signP_bd s i h1
          obtain ⟨h2, h3⟩ := ih (signP s i h1).2.1 (acc ++ [⟨(signP s i h1).1, s.extract i (signP s i h1).2.1, i⟩]) (by omega)
          refine ⟨h2, fun h4 => ⟨(h3 h4).1, ?_⟩⟩
          have := (h3 h4).2
          rw [List.length_append, List.length_cons, List.length_nil] at this
          omega
        | false => rw [lexS_bad h1 hb ho]; exact ⟨⟨i, rfl⟩, fun h4 => by simp at h4⟩
    · rw [lexS_end h1]; exact ⟨⟨0, rfl⟩, fun _ => ⟨rfl, by show acc.length ≤ _; omega⟩⟩
theorem lexR_pos (s : ByteArray) : ∃ p : Nat, (lexR s).2.2 = (p : Int) := by
  by_cases h : 6000 < s.size
  · rw [lexR_long h]; exact ⟨0, rfl⟩
  · rw [lexR_short h]; exact (lexS_small s _ 0 [] (Nat.le_refl _)).1
theorem lexR_ok {s : ByteArray} (h : (lexR s).2.1 = 0) : s.size ≤ 6000 ∧ (lexR s).2.2 = 0 ∧ (lexR s).1.length ≤ 6000 := by
  by_cases hs : 6000 < s.size
  · rw [lexR_long hs] at h; simp at h
  · rw [lexR_short hs] at h ⊢
    obtain ⟨h1, h2⟩ := (lexS_small s _ 0 [] (Nat.le_refl _)).2 h
    exact ⟨by omega, h1, by simp at h2; omega⟩
set_option maxHeartbeats 800000 in
set_option maxRecDepth 100000 in
theorem impl_newReader (s : ByteArray) (w : World) (tab : TabW w) :
    Calls Tryd.prog 57 #[.string s] w fun e w' => ∃ rb A c, e = .returned (.pointer (some ⟨rb, 0, none⟩)) ∧ w.heap.size ≤ rb ∧ Below w.heap.size w w' ∧ w'.heap[rb]? = some (.cells #[.slice A (lexR s).1.length c, .int .i64 (s.size : Int), .int .i64 0, .int .i64 (lexR s).2.1, .int .i64 (lexR s).2.2] 89 (0, 0)) ∧ Rd w' 3 A (lexR s).1.length ((lexR s).1.flatMap sgF) ∧ (∀ b o, A = some ⟨b, o, none⟩ → b < rb) ∧ (lexR s).1.length ≤ c := by
  have TB := Lib.hid tab
  clear tab
  go_enter Tryd.func57, Tryd.ntmps57
  go_wp2_with fail
  refine (impl_Lex s _ TB.out).mono ?_
  rintro e w1 ⟨v, rfl, own⟩
  obtain ⟨A, c, rfl, hc⟩ := Own.slice own
  have OW := Lib.hid own
  have hlt := fun g hg => (own.1.lt g hg).2
  have HLT : Hid (∀ b o, A = some ⟨b, o, none⟩ → b < w1.heap.size) := Lib.hid (fun b o e => by
    subst e
    exact hlt b rfl)
  clear own hlt
  obtain ⟨L, hL⟩ : ∃ L, (lexR s).1 = L := ⟨_, rfl⟩
  obtain ⟨fc, hfc⟩ : ∃ x, (lexR s).2.1 = x := ⟨_, rfl⟩
  obtain ⟨fp, hfp⟩ : ∃ x, (lexR s).2.2 = x := ⟨_, rfl⟩
  have HL := Lib.hid hL
  have HFC := Lib.hid hfc
  have HFP := Lib.hid hfp
  rw [hL] at OW hc ⊢
  rw [hfc, hfp]
  clear hL hfc hfp
  go_wp2_with fail
  go_ret
  rw [HL.out, HFC.out, HFP.out]
  refine ⟨_, A, c, rfl, ?_, ?_, ?_, ?_, ?_, hc⟩
  · have := OW.out.own.size; simp; omega
  · exact (OW.out.own.alloc OW.out.own.size _).alloc (by have := OW.out.own.size; simp; omega) _
  · have := heap_alloc_new (w1.alloc (.cells #[.int .i64 fc, .int .i64 fp] 26)) (.cells #[.slice A L.length c, .int .i64 (s.size : Int), .int .i64 0, .int .i64 fc, .int .i64 fp] 89)
    simpa using this
  · exact (Own.rd OW.out).below (Below.alloc (Below.alloc (Below.refl _ _) (Nat.le_refl _) _) (by simp) _)
  · intro b o e; have := HLT.out b o e; simp; omega
def zTmR : Tm := .mk 0 0 ⟨#[]⟩ []
/-- a text's term, and its fault -/
def readT (s : ByteArray) : Tm × Int × Int :=
  if (lexR s).2.1 = 0 then
    match endT (lexR s).1 s.size (rdT (lexR s).1 s.size 6 0) with
    | .bad c p => (zTmR, c, (p : Int))
    | .ok t q => (t, 0, 0)
  else (zTmR, (lexR s).2.1, (lexR s).2.2)
theorem readT_lex {s : ByteArray} (h : ¬ (lexR s).2.1 = 0) : readT s = (zTmR, (lexR s).2.1, (lexR s).2.2) := by unfold readT; rw [if_neg h]
theorem readT_bad {s : ByteArray} {c : Int} {p : Nat} (h : (lexR s).2.1 = 0) (h2 : rdT (lexR s).1 s.size 6 0 = .bad c p) : readT s = (zTmR, c, (p : Int)) := by unfold readT; rw [if_pos h, h2]; rfl
theorem readT_more {s : ByteArray} {t : Tm} {q : Nat} (h : (lexR s).2.1 = 0) (h2 : rdT (lexR s).1 s.size 6 0 = .ok t q) (h3 : q < (lexR s).1.length) : readT s = (zTmR, 3, (posAt (lexR s).1 s.size q : Int)) := by unfold readT; rw [if_pos h, h2, endT, if_pos h3]
theorem readT_ok {s : ByteArray} {t : Tm} {q : Nat} (h : (lexR s).2.1 = 0) (h2 : rdT (lexR s).1 s.size 6 0 = .ok t q) (h3 : ¬ q < (lexR s).1.length) : readT s = (t, 0, 0) := by unfold readT; rw [if_pos h, h2, endT, if_neg h3]
theorem two_set {w : World} {g0 g1 : Nat} {a b c d e f : Value} {T T' : TypeId} (hne : g0 ≠ g1) (h0 : w.heap[g0]? = some (.cells #[a, b, c, d] T (0, 0))) (h1 : w.heap[g1]? = some (.cells #[e, f] T' (0, 0))) (x y z u p q : Value) :
    ((((((w.setCell ⟨g0, 0, none⟩ x).setCell ⟨g0, 1, none⟩ y).setCell ⟨g0, 2, none⟩ z).setCell ⟨g0, 3, none⟩ u).setCell ⟨g1, 0, none⟩ p).setCell ⟨g1, 1, none⟩ q).drew.heap[g0]? = some (.cells #[x, y, z, u] T (0, 0)) ∧
    ((((((w.setCell ⟨g0, 0, none⟩ x).setCell ⟨g0, 1, none⟩ y).setCell ⟨g0, 2, none⟩ z).setCell ⟨g0, 3, none⟩ u).setCell ⟨g1, 0, none⟩ p).setCell ⟨g1, 1, none⟩ q).drew.heap[g1]? = some (.cells #[p, q] T' (0, 0)) := by
  have h4 := term_set h0 x y z u
  have h4' := (set4_block (w := w) (x := x) (y := y) (z := z) (u := u) (fun e => hne e.symm : g1 ≠ g0)).trans h1
  generalize (((w.setCell ⟨g0, 0, none⟩ x).setCell ⟨g0, 1, none⟩ y).setCell ⟨g0, 2, none⟩ z).setCell ⟨g0, 3, none⟩ u = w4 at *
  constructor
  · show ((w4.setCell ⟨g1, 0, none⟩ p).setCell ⟨g1, 1, none⟩ q).heap[g0]? = _
    exact ((Below.heap_setCell _ ⟨g1, 1, none⟩ q g0 hne).trans (Below.heap_setCell _ ⟨g1, 0, none⟩ p g0 hne)).trans h4
  · show ((w4.setCell ⟨g1, 0, none⟩ p).setCell ⟨g1, 1, none⟩ q).heap[g1]? = _
    simp [World.setCell, Array.getElem?_modify, h4']
theorem two_below {w0 w : World} {n g0 g1 : Nat} (h : Below n w0 w) (h0 : n ≤ g0) (h1 : n ≤ g1) (x y z u p q : Value) :
    Below n w0 ((((((w.setCell ⟨g0, 0, none⟩ x).setCell ⟨g0, 1, none⟩ y).setCell ⟨g0, 2, none⟩ z).setCell ⟨g0, 3, none⟩ u).setCell ⟨g1, 0, none⟩ p).setCell ⟨g1, 1, none⟩ q).drew :=
  ((((((h.setCell (p := ⟨g0, 0, none⟩) h0 _).setCell (p := ⟨g0, 1, none⟩) h0 _).setCell (p := ⟨g0, 2, none⟩) h0 _).setCell (p := ⟨g0, 3, none⟩) h0 _).setCell (p := ⟨g1, 0, none⟩) h1 _).setCell (p := ⟨g1, 1, none⟩) h1 _).drew
set_option maxHeartbeats 3200000 in
set_option maxRecDepth 100000 in
theorem impl_ReadTerm (s : ByteArray) (W0 : World) (tab : TabW W0) (hs : s.size ≤ 1048576) :
    Calls Tryd.prog 12 #[.string s] W0 fun e w' => ∃ k m t A l c, e = .returned (.tuple #[.agg #[.int .i64 k, .int .i64 m, .string t, .slice A l c], .agg #[.int .i64 (readT s).2.1, .int .i64 (readT s).2.2]]) ∧ TmO w' (Made W0 w') [.int .i64 k, .int .i64 m, .string t, .slice A l c] (readT s).1 ∧ Below W0.heap.size W0 w' := by
  have TB := Lib.hid tab
  clear tab
  go_enter Tryd.func12, Tryd.ntmps12
  go_wp2_with fail
  have BA : Below W0.heap.size W0 ((W0.alloc (.cells #[.int .i64 0, .int .i64 0, .string ByteArray.empty, .slice none 0 0] 24)).alloc (.cells #[.int .i64 0, .int .i64 0] 26)) := (by repeat' (first | exact Below.refl _ _ | exact Nat.le_refl _ | (refine Below.alloc ?_ ?_ _) | (refine Below.setCell ?_ ?_ _) | (refine Below.drew ?_) | (refine below_drewN ?_ _) | assumption | (simp; done) | (simp; omega)))
  refine (impl_newReader s _ (TB.out.below BA)).mono ?_
  rintro e w1 ⟨rb, A, c, rfl, hrb, b1, hcell, hrd, hoff, hlc⟩
  have BA2 := Lib.hid (BA.trans (b1.mono BA.size))
  have HG0 : Hid (w1.heap[W0.heap.size]? = some (.cells #[.int .i64 0, .int .i64 0, .string ByteArray.empty, .slice none 0 0] 24 (0, 0))) := Lib.hid ((b1.block _ (by simp; omega)).trans ((heap_alloc_lt (by simp)).trans (heap_alloc_new _ _)))
  have HG1 : Hid (w1.heap[W0.heap.size + 1]? = some (.cells #[.int .i64 0, .int .i64 0] 26 (0, 0))) := Lib.hid ((b1.block _ (by simp)).trans (by have := heap_alloc_new (W0.alloc (.cells #[.int .i64 0, .int .i64 0, .string ByteArray.empty, .slice none 0 0] 24)) (.cells #[.int .i64 0, .int .i64 0] 26); simpa using this))
  have hrb2 : W0.heap.size + 2 ≤ rb := by simpa using hrb
  have hlt1 := lt_of_block hcell
  obtain ⟨g0, hg0⟩ : ∃ g, W0.heap.size = g := ⟨_, rfl⟩
  obtain ⟨g1, hg1⟩ : ∃ g, W0.heap.size + 1 = g := ⟨_, rfl⟩
  have hg0' : W0.heap.size ≤ g0 := by omega
  have hg1' : W0.heap.size ≤ g1 := by omega
  have hn0 : ¬ g0 = rb := by omega
  have hn1 : ¬ g1 = rb := by omega
  have hn2 : ¬ rb = g0 := by omega
  have hn3 : ¬ rb = g1 := by omega
  have hn4 : ¬ g0 = g1 := by omega
  have hn5 : ¬ g1 = g0 := by omega
  have hrl : W0.heap.size ≤ rb := by omega
  have HN4 : Hid (g0 ≠ g1) := Lib.hid hn4
  rw [hg0] at HG0 ⊢
  rw [hg1] at HG1
  have hg01 : g0 + 1 = g1 := by omega
  rw [hg01]
  have HGG : Hid (W0.heap.size = g0 ∧ g0 + 1 = g1) := Lib.hid ⟨hg0, hg01⟩
  have hgr : g1 < rb := by omega
  clear hg0 hg1 hg01 BA hrb hrb2
  obtain ⟨fpn, hfpn⟩ := lexR_pos s
  by_cases hf : (lexR s).2.1 = 0
  · obtain ⟨hs6, hf2, hL6⟩ := lexR_ok hf
    have R1 : Hid (RdAt w1 rb A c s.size 0 (lexR s).1 0 0) := Lib.hid ⟨by rw [hf, hf2] at hcell; exact hcell, hrd, fun b o e => by have := hoff b o e; omega, by omega, hs6, hL6, hlc⟩
    have HOF : Hid (∀ b o, A = some ⟨b, o, none⟩ → b < w1.heap.size) := Lib.hid (fun b o e => by have := hoff b o e; omega)
    have HF := Lib.hid hf
    obtain ⟨L, hL⟩ : ∃ L, (lexR s).1 = L := ⟨_, rfl⟩
    have HL := Lib.hid hL
    rw [hL] at R1
    have p3 := R1.out.cs.2.2.2.1
    clear hcell hrd hoff hlc hf hf2 hL6 hfpn hL b1
    go_wp2_with fail
    have hcl := rd_term_all 6 (Nat.le_refl _) W0 w1 rb A c s.size 0 L TB.out BA2.out hrl HOF.out R1.out
    rw [show (6 - ((6 : Nat) : Int)) = 0 from rfl] at hcl
    refine hcl.mono ?_
    intro e w2 hret
    have HR : Hid (GotT w1 w2 rb A c s.size L (rdT L s.size 6 0) e) := Lib.hid hret
    have KW2 := Lib.hid hret.1
    have B2 : Hid (Below W0.heap.size W0 w2) := Lib.hid (KeepR.base hret.1 BA2.out hrl)
    have HG0' : Hid (w2.heap[g0]? = some (.cells #[.int .i64 0, .int .i64 0, .string ByteArray.empty, .slice none 0 0] 24 (0, 0))) := Lib.hid ((hret.1.block g0 (lt_of_block HG0.out) hn0).trans HG0.out)
    have HG1' : Hid (w2.heap[g1]? = some (.cells #[.int .i64 0, .int .i64 0] 26 (0, 0))) := Lib.hid ((hret.1.block g1 (lt_of_block HG1.out) hn1).trans HG1.out)
    have h12 := hret.1.size
    have hrb2 : rb < w2.heap.size := by omega
    clear HG0 HG1 hret p3 hcl
    rename Hid (w2.heap[g0]? = some (.cells #[.int .i64 0, .int .i64 0, .string ByteArray.empty, .slice none 0 0] 24 (0, 0))) => HG0
    rename Hid (w2.heap[g1]? = some (.cells #[.int .i64 0, .int .i64 0] 26 (0, 0))) => HG1
    cases hgg : rdT L s.size 6 0 with
    | bad fc fp =>
      rw [hgg] at HR
      obtain ⟨_, q, rfl, r2⟩ := HR.out.bad
      have F := Lib.hid (readT_bad (s := s) HF.out (by rw [HL.out]; exact hgg))
      have HGB0 : Hid ((w2.alloc (.cells #[.int .i64 0, .int .i64 0, .string ⟨#[]⟩, .slice none 0 0] 24)).heap[g0]? = some (.cells #[.int .i64 0, .int .i64 0, .string ByteArray.empty, .slice none 0 0] 24 (0, 0))) := Lib.hid ((heap_alloc_lt (lt_of_block HG0.out)).trans HG0.out)
      have HGB1 : Hid ((w2.alloc (.cells #[.int .i64 0, .int .i64 0, .string ⟨#[]⟩, .slice none 0 0] 24)).heap[g1]? = some (.cells #[.int .i64 0, .int .i64 0] 26 (0, 0))) := Lib.hid ((heap_alloc_lt (lt_of_block HG1.out)).trans HG1.out)
      have RB := Lib.hid (r2.below (Below.alloc (Below.refl w2.heap.size w2) (Nat.le_refl _) (.cells #[.int .i64 0, .int .i64 0, .string ⟨#[]⟩, .slice none 0 0] 24)))
      have BB : Hid (Below W0.heap.size W0 (w2.alloc (.cells #[.int .i64 0, .int .i64 0, .string ⟨#[]⟩, .slice none 0 0] 24))) := Lib.hid (B2.out.alloc B2.out.size _)
      clear r2 hgg HR
      go_upto_region 6 with fail
      generalize w2.alloc (.cells #[.int .i64 0, .int .i64 0, .string ⟨#[]⟩, .slice none 0 0] 24) = wb at *
      clear HG0 HG1
      rename Hid (wb.heap[g0]? = some (.cells #[.int .i64 0, .int .i64 0, .string ByteArray.empty, .slice none 0 0] 24 (0, 0))) => HG0
      rename Hid (wb.heap[g1]? = some (.cells #[.int .i64 0, .int .i64 0] 26 (0, 0))) => HG1
      have p3 := RB.out.cs.2.2.2.1
      have p4 := RB.out.cs.2.2.2.2
      have a0 := Lib.frozen_of_heap HG0.out 0
      have a1 := Lib.frozen_of_heap HG0.out 1
      have a2 := Lib.frozen_of_heap HG0.out 2
      have a3 := Lib.frozen_of_heap HG0.out 3
      have d0 := Lib.frozen_of_heap HG1.out 0
      have d1 := Lib.frozen_of_heap HG1.out 1
      obtain ⟨v0, v1, v2, v3⟩ := term_cells HG0.out
      have e0 : wb.cell? ⟨g1, 0, none⟩ = some (.int .i64 0) := by rw [Lib.cell_of_heap HG1.out]; rfl
      have e1 : wb.cell? ⟨g1, 1, none⟩ = some (.int .i64 0) := by rw [Lib.cell_of_heap HG1.out]; rfl
      have hz0 := lt_of_block HG0.out
      have hz1 := lt_of_block HG1.out
      go_region_held3 (fun w' => w'.cell? ⟨rb, 3, none⟩ = some (.int .i64 fc) ∧ w'.cell? ⟨rb, 4, none⟩ = some (.int .i64 (fp : Int)) ∧ w'.frozen? ⟨g0, 0, none⟩ = false ∧ w'.frozen? ⟨g0, 1, none⟩ = false ∧ w'.frozen? ⟨g0, 2, none⟩ = false ∧ w'.frozen? ⟨g0, 3, none⟩ = false ∧ w'.frozen? ⟨g1, 0, none⟩ = false ∧ w'.frozen? ⟨g1, 1, none⟩ = false)
        (first | (refine ⟨?_, ?_, ?_, ?_, ?_, ?_, ?_, ?_⟩ <;> first | (with_reducible assumption) | (simp [World.cell?_setCell_other, hn0, hn1, hn2, hn3, p3, p4, a0, a1, a2, a3, d0, d1]; done)) | go_keep)
        (first | fail)
      obtain ⟨W, hW⟩ : ∃ W, (((((((wb.setCell ⟨g0, 0, none⟩ (.int .i64 0)).setCell ⟨g0, 1, none⟩ (.int .i64 0)).setCell ⟨g0, 2, none⟩ (.string ⟨#[]⟩)).setCell ⟨g0, 3, none⟩ (.slice none 0 0)).setCell ⟨g1, 0, none⟩ (.int .i64 fc)).setCell ⟨g1, 1, none⟩ (.int .i64 (fp : Int))).drew) = W := ⟨_, rfl⟩
      have hts := two_set HN4.out HG0.out HG1.out (.int .i64 0) (.int .i64 0) (.string ⟨#[]⟩) (.slice none 0 0) (.int .i64 fc) (.int .i64 (fp : Int))
      have hbl := two_below (n := W0.heap.size) (g0 := g0) (g1 := g1) BB.out (by omega) (by omega) (.int .i64 0) (.int .i64 0) (.string ⟨#[]⟩) (.slice none 0 0) (.int .i64 fc) (.int .i64 (fp : Int))
      rw [hW] at hts hbl ⊢
      obtain ⟨y0, y1, y2, y3⟩ := term_cells hts.1
      have y4 : W.cell? ⟨g1, 0, none⟩ = some (.int .i64 fc) := by rw [Lib.cell_of_heap hts.2]; rfl
      have y5 : W.cell? ⟨g1, 1, none⟩ = some (.int .i64 (fp : Int)) := by rw [Lib.cell_of_heap hts.2]; rfl
      clear v0 v1 v2 v3 a0 a1 a2 a3 d0 d1 e0 e1 p3 p4 hts hW
      go_wp2_with fail
      refine bodyPost_ret (v := .tuple #[.agg #[.int .i64 0, .int .i64 0, .string ⟨#[]⟩, .slice none 0 0], .agg #[.int .i64 fc, .int .i64 (fp : Int)]]) (by simp [results, Tryd.results12, go_sem, y0, y1, y2, y3, y4, y5]) rfl ?_
      rw [F.out]
      exact ⟨0, 0, ⟨#[]⟩, none, 0, 0, rfl, TmO.leaf (by unfold i64in; omega) (by unfold i64in; omega) (Nat.zero_le _), hbl⟩
    | ok t q =>
      rw [hgg] at HR
      obtain ⟨_, tk, tm, ts, tA, tl, tc, rfl, tof, r2⟩ := HR.out.ok
      have R2 := Lib.hid r2
      have T2 : Hid (TmO w2 (Made w1 w2) [.int .i64 tk, .int .i64 tm, .string ts, .slice tA tl tc] t) := Lib.hid tof
      have HGX : Hid (rdT (lexR s).1 s.size 6 0 = .ok t q) := Lib.hid (by rw [HL.out]; exact hgg)
      have hl0 := lt_of_block HG0.out
      have hl1 := lt_of_block HG1.out
      clear r2 tof hgg HR
      go_wp2_with fail
      refine (rd_ended _ rb A c s.size q L 0 (R2.out.below (Below.alloc (Below.refl w2.heap.size w2) (Nat.le_refl _) (.cells #[.int .i64 tk, .int .i64 tm, .string ts, .slice tA tl tc] 24)))).mono ?_
      rintro e w4 ⟨k4, hret⟩
      have K4 : Hid (KeepR rb (w2.alloc (.cells #[.int .i64 tk, .int .i64 tm, .string ts, .slice tA tl tc] 24)) w4) := Lib.hid k4
      have B4 : Hid (Below W0.heap.size W0 w4) := Lib.hid (KeepR.base k4 (B2.out.alloc B2.out.size _) hrl)
      have HG0' : Hid (w4.heap[g0]? = some (.cells #[.int .i64 0, .int .i64 0, .string ByteArray.empty, .slice none 0 0] 24 (0, 0))) := Lib.hid ((k4.block g0 (by simp; omega) hn0).trans ((heap_alloc_lt hl0).trans HG0.out))
      have HG1' : Hid (w4.heap[g1]? = some (.cells #[.int .i64 0, .int .i64 0] 26 (0, 0))) := Lib.hid ((k4.block g1 (by simp; omega) hn1).trans ((heap_alloc_lt hl1).trans HG1.out))
      have HB4 : Hid (w4.heap[w2.heap.size]? = some (.cells #[.int .i64 tk, .int .i64 tm, .string ts, .slice tA tl tc] 24 (0, 0))) := Lib.hid ((k4.block _ (by simp) (by show w2.heap.size ≠ rb; omega)).trans (heap_alloc_new _ _))
      have h24 : w2.heap.size < w4.heap.size := by have := k4.size; simp at this; omega
      clear HG0 HG1 k4 hl0 hl1
      rename Hid (w4.heap[g0]? = some (.cells #[.int .i64 0, .int .i64 0, .string ByteArray.empty, .slice none 0 0] 24 (0, 0))) => HG0
      rename Hid (w4.heap[g1]? = some (.cells #[.int .i64 0, .int .i64 0] 26 (0, 0))) => HG1
      rcases hret with ⟨hq, rfl, r4⟩ | ⟨hq, rfl, r4⟩
      · have F := Lib.hid (readT_ok (s := s) HF.out HGX.out (by rw [HL.out]; exact hq))
        obtain ⟨x0, x1, x2, x3⟩ := term_cells HB4.out
        have hzb := lt_of_block HB4.out
        clear r4 hq
        have a0 := Lib.frozen_of_heap HG0.out 0
        have a1 := Lib.frozen_of_heap HG0.out 1
        have a2 := Lib.frozen_of_heap HG0.out 2
        have a3 := Lib.frozen_of_heap HG0.out 3
        have d0 := Lib.frozen_of_heap HG1.out 0
        have d1 := Lib.frozen_of_heap HG1.out 1
        obtain ⟨v0, v1, v2, v3⟩ := term_cells HG0.out
        have e0 : w4.cell? ⟨g1, 0, none⟩ = some (.int .i64 0) := by rw [Lib.cell_of_heap HG1.out]; rfl
        have e1 : w4.cell? ⟨g1, 1, none⟩ = some (.int .i64 0) := by rw [Lib.cell_of_heap HG1.out]; rfl
        have hz0 := lt_of_block HG0.out
        have hz1 := lt_of_block HG1.out
        go_wp2_with fail
        have hts := two_set HN4.out HG0.out HG1.out (.int .i64 tk) (.int .i64 tm) (.string ts) (.slice tA tl tc) (.int .i64 0) (.int .i64 0)
        have hbl := two_below (n := W0.heap.size) (g0 := g0) (g1 := g1) B4.out (by omega) (by omega) (.int .i64 tk) (.int .i64 tm) (.string ts) (.slice tA tl tc) (.int .i64 0) (.int .i64 0)
        obtain ⟨W, hW⟩ : ∃ W, (((((w4.setCell ⟨g0, 0, none⟩ (.int .i64 tk)).setCell ⟨g0, 1, none⟩ (.int .i64 tm)).setCell ⟨g0, 2, none⟩ (.string ts)).setCell ⟨g0, 3, none⟩ (.slice tA tl tc)).setCell ⟨g1, 0, none⟩ (.int .i64 0)).setCell ⟨g1, 1, none⟩ (.int .i64 0) = W := ⟨_, rfl⟩
        rw [hW] at hts hbl ⊢
        have ht0 : W.heap[g0]? = some (.cells #[.int .i64 tk, .int .i64 tm, .string ts, .slice tA tl tc] 24 (0, 0)) := hts.1
        have ht1 : W.heap[g1]? = some (.cells #[.int .i64 0, .int .i64 0] 26 (0, 0)) := hts.2
        have hbw : Below W0.heap.size W0 W := ⟨hbl.os, hbl.tape, hbl.output, hbl.size, hbl.block⟩
        obtain ⟨y0, y1, y2, y3⟩ := term_cells ht0
        have y4 : W.cell? ⟨g1, 0, none⟩ = some (.int .i64 0) := by rw [Lib.cell_of_heap ht1]; rfl
        have y5 : W.cell? ⟨g1, 1, none⟩ = some (.int .i64 0) := by rw [Lib.cell_of_heap ht1]; rfl
        have TW : TmO W (Made W0 W) [.int .i64 tk, .int .i64 tm, .string ts, .slice tA tl tc] t := by
          have hws : W.heap.size = w4.heap.size := by rw [← hW]; simp
          refine (T2.out.keep fun b hb => ?_).sub (fun b hb => ⟨by have := hb.1; have := HGG.out; omega, by have := hb.2; omega⟩)
          have h1 := hb.1
          have h2 := hb.2
          have h3 := HGG.out
          rw [← hW]
          refine ((Below.heap_setCell _ ⟨g1, 1, none⟩ _ b (by show b ≠ g1; omega)).trans (Below.heap_setCell _ ⟨g1, 0, none⟩ _ b (by show b ≠ g1; omega))).trans ?_
          refine (set4_block (by omega)).trans ?_
          exact (K4.out.block b (by simp; omega) (by show b ≠ rb; omega)).trans (heap_alloc_lt h2)
        clear v0 v1 v2 v3 a0 a1 a2 a3 d0 d1 e0 e1 hts hW ht0 ht1
        refine bodyPost_ret (v := .tuple #[.agg #[.int .i64 tk, .int .i64 tm, .string ts, .slice tA tl tc], .agg #[.int .i64 0, .int .i64 0]]) (by simp [results, Tryd.results12, go_sem, y0, y1, y2, y3, y4, y5]) rfl ?_
        rw [F.out]
        exact ⟨tk, tm, ts, tA, tl, tc, rfl, TW, hbw⟩
      · have F := Lib.hid (readT_more (s := s) HF.out HGX.out (by rw [HL.out]; exact hq))
        have p3 := r4.cs.2.2.2.1
        have p4 := r4.cs.2.2.2.2
        obtain ⟨PP, hPP⟩ : ∃ PP, posAt L s.size q = PP := ⟨_, rfl⟩
        rw [HL.out, hPP] at F
        rw [hPP] at p4
        clear r4 hq hPP
        have a0 := Lib.frozen_of_heap HG0.out 0
        have a1 := Lib.frozen_of_heap HG0.out 1
        have a2 := Lib.frozen_of_heap HG0.out 2
        have a3 := Lib.frozen_of_heap HG0.out 3
        have d0 := Lib.frozen_of_heap HG1.out 0
        have d1 := Lib.frozen_of_heap HG1.out 1
        obtain ⟨v0, v1, v2, v3⟩ := term_cells HG0.out
        have e0 : w4.cell? ⟨g1, 0, none⟩ = some (.int .i64 0) := by rw [Lib.cell_of_heap HG1.out]; rfl
        have e1 : w4.cell? ⟨g1, 1, none⟩ = some (.int .i64 0) := by rw [Lib.cell_of_heap HG1.out]; rfl
        have hz0 := lt_of_block HG0.out
        have hz1 := lt_of_block HG1.out
        go_upto_region 6 with fail
        go_region_held3 (fun w' => w'.cell? ⟨rb, 3, none⟩ = some (.int .i64 3) ∧ w'.cell? ⟨rb, 4, none⟩ = some (.int .i64 (PP : Int)) ∧ w'.frozen? ⟨g0, 0, none⟩ = false ∧ w'.frozen? ⟨g0, 1, none⟩ = false ∧ w'.frozen? ⟨g0, 2, none⟩ = false ∧ w'.frozen? ⟨g0, 3, none⟩ = false ∧ w'.frozen? ⟨g1, 0, none⟩ = false ∧ w'.frozen? ⟨g1, 1, none⟩ = false)
          (first | (refine ⟨?_, ?_, ?_, ?_, ?_, ?_, ?_, ?_⟩ <;> first | (with_reducible assumption) | (simp [World.cell?_setCell_other, hn0, hn1, hn2, hn3, p3, p4, a0, a1, a2, a3, d0, d1]; done)) | go_keep)
          (first | fail)
        obtain ⟨W, hW⟩ : ∃ W, (((((((w4.setCell ⟨g0, 0, none⟩ (.int .i64 0)).setCell ⟨g0, 1, none⟩ (.int .i64 0)).setCell ⟨g0, 2, none⟩ (.string ⟨#[]⟩)).setCell ⟨g0, 3, none⟩ (.slice none 0 0)).setCell ⟨g1, 0, none⟩ (.int .i64 3)).setCell ⟨g1, 1, none⟩ (.int .i64 (PP : Int))).drew) = W := ⟨_, rfl⟩
        have hts := two_set HN4.out HG0.out HG1.out (.int .i64 0) (.int .i64 0) (.string ⟨#[]⟩) (.slice none 0 0) (.int .i64 3) (.int .i64 (PP : Int))
        have hbl := two_below (n := W0.heap.size) (g0 := g0) (g1 := g1) B4.out (by omega) (by omega) (.int .i64 0) (.int .i64 0) (.string ⟨#[]⟩) (.slice none 0 0) (.int .i64 3) (.int .i64 (PP : Int))
        rw [hW] at hts hbl ⊢
        obtain ⟨y0, y1, y2, y3⟩ := term_cells hts.1
        have y4 : W.cell? ⟨g1, 0, none⟩ = some (.int .i64 3) := by rw [Lib.cell_of_heap hts.2]; rfl
        have y5 : W.cell? ⟨g1, 1, none⟩ = some (.int .i64 (PP : Int)) := by rw [Lib.cell_of_heap hts.2]; rfl
        clear v0 v1 v2 v3 a0 a1 a2 a3 d0 d1 e0 e1 p3 p4 hts hW
        go_wp2_with fail
        refine bodyPost_ret (v := .tuple #[.agg #[.int .i64 0, .int .i64 0, .string ⟨#[]⟩, .slice none 0 0], .agg #[.int .i64 3, .int .i64 (PP : Int)]]) (by simp [results, Tryd.results12, go_sem, y0, y1, y2, y3, y4, y5]) rfl ?_
        rw [F.out]
        exact ⟨0, 0, ⟨#[]⟩, none, 0, 0, rfl, TmO.leaf (by unfold i64in; omega) (by unfold i64in; omega) (Nat.zero_le _), hbl⟩
  · have F := Lib.hid (readT_lex hf)
    have hfb : ((lexR s).2.1 != 0) = true := by rw [bne_iff_ne]; exact hf
    have hfb2 : ((lexR s).2.1 == 0) = false := beq_eq_false_iff_ne.2 hf
    have p3 : w1.cell? ⟨rb, 3, none⟩ = some (.int .i64 (lexR s).2.1) := by rw [Lib.cell_of_heap hcell]; rfl
    have p4 : w1.cell? ⟨rb, 4, none⟩ = some (.int .i64 (lexR s).2.2) := by rw [Lib.cell_of_heap hcell]; rfl
    clear hfpn hf hcell hrd hoff hlc b1
    obtain ⟨fc, hfc⟩ : ∃ x, (lexR s).2.1 = x := ⟨_, rfl⟩
    obtain ⟨fp, hfp⟩ : ∃ x, (lexR s).2.2 = x := ⟨_, rfl⟩
    rw [hfc] at F hfb hfb2 p3
    rw [hfp] at F p4
    clear hfc hfp
    have a0 := Lib.frozen_of_heap HG0.out 0
    have a1 := Lib.frozen_of_heap HG0.out 1
    have a2 := Lib.frozen_of_heap HG0.out 2
    have a3 := Lib.frozen_of_heap HG0.out 3
    have d0 := Lib.frozen_of_heap HG1.out 0
    have d1 := Lib.frozen_of_heap HG1.out 1
    obtain ⟨v0, v1, v2, v3⟩ := term_cells HG0.out
    have e0 : w1.cell? ⟨g1, 0, none⟩ = some (.int .i64 0) := by rw [Lib.cell_of_heap HG1.out]; rfl
    have e1 : w1.cell? ⟨g1, 1, none⟩ = some (.int .i64 0) := by rw [Lib.cell_of_heap HG1.out]; rfl
    have hz0 := lt_of_block HG0.out
    have hz1 := lt_of_block HG1.out
    go_upto_region 3 with fail
    go_region_held3 (fun w' => w'.cell? ⟨rb, 3, none⟩ = some (.int .i64 fc) ∧ w'.cell? ⟨rb, 4, none⟩ = some (.int .i64 fp) ∧ w'.frozen? ⟨g0, 0, none⟩ = false ∧ w'.frozen? ⟨g0, 1, none⟩ = false ∧ w'.frozen? ⟨g0, 2, none⟩ = false ∧ w'.frozen? ⟨g0, 3, none⟩ = false ∧ w'.frozen? ⟨g1, 0, none⟩ = false ∧ w'.frozen? ⟨g1, 1, none⟩ = false)
      (first | (refine ⟨?_, ?_, ?_, ?_, ?_, ?_, ?_, ?_⟩ <;> first | (with_reducible assumption) | (simp [World.cell?_setCell_other, hn0, hn1, hn2, hn3, p3, p4, a0, a1, a2, a3, d0, d1]; done)) | go_keep)
      (first | fail)
    obtain ⟨W, hW⟩ : ∃ W, (((((((w1.setCell ⟨g0, 0, none⟩ (.int .i64 0)).setCell ⟨g0, 1, none⟩ (.int .i64 0)).setCell ⟨g0, 2, none⟩ (.string ⟨#[]⟩)).setCell ⟨g0, 3, none⟩ (.slice none 0 0)).setCell ⟨g1, 0, none⟩ (.int .i64 fc)).setCell ⟨g1, 1, none⟩ (.int .i64 fp)).drew) = W := ⟨_, rfl⟩
    have hts := two_set HN4.out HG0.out HG1.out (.int .i64 0) (.int .i64 0) (.string ⟨#[]⟩) (.slice none 0 0) (.int .i64 fc) (.int .i64 fp)
    have hbl := two_below (n := W0.heap.size) (g0 := g0) (g1 := g1) BA2.out (by omega) (by omega) (.int .i64 0) (.int .i64 0) (.string ⟨#[]⟩) (.slice none 0 0) (.int .i64 fc) (.int .i64 fp)
    rw [hW] at hts hbl ⊢
    obtain ⟨y0, y1, y2, y3⟩ := term_cells hts.1
    have y4 : W.cell? ⟨g1, 0, none⟩ = some (.int .i64 fc) := by rw [Lib.cell_of_heap hts.2]; rfl
    have y5 : W.cell? ⟨g1, 1, none⟩ = some (.int .i64 fp) := by rw [Lib.cell_of_heap hts.2]; rfl
    clear v0 v1 v2 v3 a0 a1 a2 a3 d0 d1 e0 e1 p3 p4 hts hW
    go_wp2_with fail
    refine bodyPost_ret (v := .tuple #[.agg #[.int .i64 0, .int .i64 0, .string ⟨#[]⟩, .slice none 0 0], .agg #[.int .i64 fc, .int .i64 fp]]) (by simp [results, Tryd.results12, go_sem, y0, y1, y2, y3, y4, y5]) rfl ?_
    rw [F.out]
    exact ⟨0, 0, ⟨#[]⟩, none, 0, 0, rfl, TmO.leaf (by unfold i64in; omega) (by unfold i64in; omega) (Nat.zero_le _), hbl⟩
end Go.Proofs.YtefcdpkficojgaaDoor
