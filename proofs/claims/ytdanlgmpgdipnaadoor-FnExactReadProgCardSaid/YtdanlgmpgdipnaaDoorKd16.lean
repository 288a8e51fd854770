/- Several texts in one: RdTerm. -/
import Derived.Test.YtdanlgmpgdipnaaDoorKd14
import Derived.Test.YtdanlgmpgdipnaaDoorKd15
import Derived.Test.YtdanlgmpgdipnaaDoorKd9
import Derived.Lib.Builder
namespace Go.Proofs.YtdanlgmpgdipnaaDoor
open Go.RowKit
set_option linter.unusedVariables false


/-- what reading a term leaves -/
def GotT (w w' : World) (rb : Nat) (A : Option Addr) (c n : Nat) (L : List Sg) (g : Got Tm) (e : Ending) : Prop :=
  KeepR rb w w' ∧ match g with
    | .ok t q => ∃ k m s A' l c', e = .returned (.tuple #[.agg #[.int .i64 k, .int .i64 m, .string s, .slice A' l c'], .bool true]) ∧ TmO w' (Made w w') [.int .i64 k, .int .i64 m, .string s, .slice A' l c'] t ∧ RdAt w' rb A c n q L 0 0
    | .bad fc fp => ∃ q, e = .returned (.tuple #[.agg #[.int .i64 0, .int .i64 0, .string ⟨#[]⟩, .slice none 0 0], .bool false]) ∧ RdAt w' rb A c n q L fc fp
theorem GotT.ok {w w' : World} {rb : Nat} {A : Option Addr} {c n : Nat} {L : List Sg} {t : Tm} {q : Nat} {e : Ending} (h : GotT w w' rb A c n L (.ok t q) e) : KeepR rb w w' ∧ ∃ k m s A' l c', e = .returned (.tuple #[.agg #[.int .i64 k, .int .i64 m, .string s, .slice A' l c'], .bool true]) ∧ TmO w' (Made w w') [.int .i64 k, .int .i64 m, .string s, .slice A' l c'] t ∧ RdAt w' rb A c n q L 0 0 := h
theorem GotT.bad {w w' : World} {rb : Nat} {A : Option Addr} {c n : Nat} {L : List Sg} {fc : Int} {fp : Nat} {e : Ending} (h : GotT w w' rb A c n L (.bad fc fp) e) : KeepR rb w w' ∧ ∃ q, e = .returned (.tuple #[.agg #[.int .i64 0, .int .i64 0, .string ⟨#[]⟩, .slice none 0 0], .bool false]) ∧ RdAt w' rb A c n q L fc fp := h
theorem TabW.rd {W0 w : World} (h : TabW W0) (hb : Below W0.heap.size W0 w) : TabW w := h.below hb
theorem KeepR.base {W0 w w' : World} {rb : Nat} (h : KeepR rb w w') (hb : Below W0.heap.size W0 w) (hr : W0.heap.size ≤ rb) : Below W0.heap.size W0 w' :=
  hb.trans (h.below hb.size (fun b hlt => by omega))
theorem term_set {w : World} {g : Nat} {a b c d : Value} {T : TypeId} (h : w.heap[g]? = some (.cells #[a, b, c, d] T (0, 0))) (x y z u : Value) :
    ((((w.setCell ⟨g, 0, none⟩ x).setCell ⟨g, 1, none⟩ y).setCell ⟨g, 2, none⟩ z).setCell ⟨g, 3, none⟩ u).heap[g]? = some (.cells #[x, y, z, u] T (0, 0)) := by
  simp [World.setCell, Array.getElem?_modify, h]
theorem term_cells {W : World} {g : Nat} {a b c d : Value} {T : TypeId} (h : W.heap[g]? = some (.cells #[a, b, c, d] T (0, 0))) : W.cell? ⟨g, 0, none⟩ = some a ∧ W.cell? ⟨g, 1, none⟩ = some b ∧ W.cell? ⟨g, 2, none⟩ = some c ∧ W.cell? ⟨g, 3, none⟩ = some d := by
  refine ⟨?_, ?_, ?_, ?_⟩ <;> (rw [Lib.cell_of_heap h]; rfl)
theorem set_keep4 {rb g : Nat} {w w1 : World} (h : KeepR rb w w1) (hg : w.heap.size ≤ g) (x y z u : Value) : KeepR rb w ((((w1.setCell ⟨g, 0, none⟩ x).setCell ⟨g, 1, none⟩ y).setCell ⟨g, 2, none⟩ z).setCell ⟨g, 3, none⟩ u) := by
  have one : ∀ (W : World) (o : Nat) (v : Value), KeepR rb w W → KeepR rb w (W.setCell ⟨g, o, none⟩ v) := fun W o v k =>
    ⟨k.os, k.tape, k.output, by simpa using k.size, fun b hb hS => (Below.heap_setCell W ⟨g, o, none⟩ v b (fun e => by have : b = g := e; omega)).trans (k.block b hb hS)⟩
  exact one _ _ _ (one _ _ _ (one _ _ _ (one _ _ _ h)))
theorem RdAt.setg {w : World} {rb : Nat} {A : Option Addr} {c n i : Nat} {L : List Sg} {fc : Int} {fp : Nat} (h : RdAt w rb A c n i L fc fp) {g : Nat} (hg : g ≠ rb) (hA : ∀ b o, A = some ⟨b, o, none⟩ → b ≠ g) (o : Nat) (v : Value) : RdAt (w.setCell ⟨g, o, none⟩ v) rb A c n i L fc fp :=
  ⟨(Below.heap_setCell w ⟨g, o, none⟩ v rb (fun e => hg e.symm)).trans h.cells, rd_set h.rd hA, h.off, h.hi, h.hn, h.hL, h.hc⟩
theorem RdAt.set4 {w : World} {rb : Nat} {A : Option Addr} {c n i : Nat} {L : List Sg} {fc : Int} {fp : Nat} (h : RdAt w rb A c n i L fc fp) {g : Nat} (hg : g ≠ rb) (hA : ∀ b o, A = some ⟨b, o, none⟩ → b ≠ g) (x y z u : Value) :
    RdAt ((((w.setCell ⟨g, 0, none⟩ x).setCell ⟨g, 1, none⟩ y).setCell ⟨g, 2, none⟩ z).setCell ⟨g, 3, none⟩ u) rb A c n i L fc fp :=
  (((h.setg hg hA _ _).setg hg hA _ _).setg hg hA _ _).setg hg hA _ _
theorem RdAt.seti1 {w : World} {rb : Nat} {A : Option Addr} {c n i : Nat} {L : List Sg} {fc : Int} {fp : Nat} (h : RdAt w rb A c n i L fc fp) (hi : i + 1 ≤ 6000) : RdAt (w.setCell ⟨rb, 2, none⟩ (.int .i64 ((i : Int) + 1))) rb A c n (i + 1) L fc fp := by
  have := h.seti (i + 1) hi
  rwa [show ((i + 1 : Nat) : Int) = (i : Int) + 1 from by omega] at this
theorem TmO.set4 {w : World} {F : Nat → Prop} {cs : List Value} {t : Tm} (h : TmO w F cs t) {g : Nat} (hg : ¬ F g) (x y z u : Value) : TmO ((((w.setCell ⟨g, 0, none⟩ x).setCell ⟨g, 1, none⟩ y).setCell ⟨g, 2, none⟩ z).setCell ⟨g, 3, none⟩ u) F cs t :=
  (((h.set (p := ⟨g, 0, none⟩) hg x).set (p := ⟨g, 1, none⟩) hg y).set (p := ⟨g, 2, none⟩) hg z).set (p := ⟨g, 3, none⟩) hg u
theorem readD_bd (s : ByteArray) : i64in (readD s).1 := by
  unfold readD
  split
  · unfold i64in; simp only; omega
  · unfold i64in; simp only; omega
theorem txt_lit {a : ByteArray} {l : List UInt8} (h : ¬ a = ⟨l.toArray⟩) : (a.toList == l) = false := by
  rw [beq_eq_false_iff_ne]
  intro e
  exact h (str_ext (by rw [← Lib.toList_data]; exact e))
theorem txt_lity {a : ByteArray} {l : List UInt8} (h : a = ⟨l.toArray⟩) : (a.toList == l) = true := by
  subst h
  rw [beq_iff_eq, Lib.toList_data]
/-- the signs' row lies below -/
theorem RdAt.row {w : World} {rb : Nat} {A : Option Addr} {c n i : Nat} {L : List Sg} {fc : Int} {fp : Nat} (h : RdAt w rb A c n i L fc fp) (h0 : 0 < L.length) : ∀ b o, A = some ⟨b, o, none⟩ → b < w.heap.size := by
  intro b o e
  obtain ⟨b', o', e', hc⟩ := h.rd.2 h0
  rw [e] at e'
  injection e' with e'
  injection e' with e1 e2
  subst e1 e2
  have hh := hc 0 _ ((flat_get sgF 3 sgF_len L 0 0 h0 (by omega)).trans rfl)
  exact cell_lt hh
theorem TmO.leaf {w : World} {F : Nat → Prop} {k m : Int} {s : ByteArray} (hk : i64in k) (hm : i64in m) (hs : s.size ≤ maxLen) : TmO w F [.int .i64 k, .int .i64 m, .string s, .slice none 0 0] (.mk k m s []) :=
  TmO.mk' (kids := []) hk hm hs (Nat.le_refl _) (by simp [maxLen]) ⟨[], fun _ _ => False, RowO.nil _ _ _ _ _, fun i h => absurd h (by simp)⟩
abbrev TrC (r : Nat) : Prop := ∀ (W0 w : World) (rb : Nat) (A : Option Addr) (c n i : Nat) (L : List Sg), TabW W0 → Below W0.heap.size W0 w → W0.heap.size ≤ rb → (∀ b o, A = some ⟨b, o, none⟩ → b < w.heap.size) → RdAt w rb A c n i L 0 0 →
  Calls Tryd.prog 71 #[.pointer (some ⟨rb, 0, none⟩), .int .i64 (6 - (r : Int))] w fun e w' => GotT w w' rb A c n L (rdT L n r i) e
abbrev InC (r : Nat) : Prop := ∀ (W0 w : World) (rb : Nat) (A : Option Addr) (c n i : Nat) (L : List Sg), TabW W0 → Below W0.heap.size W0 w → W0.heap.size ≤ rb → (∀ b o, A = some ⟨b, o, none⟩ → b < w.heap.size) → RdAt w rb A c n i L 0 0 →
  Calls Tryd.prog 74 #[.pointer (some ⟨rb, 0, none⟩), .int .i64 (6 - (r : Int))] w fun e w' => GotT w w' rb A c n L (innT L n (rdT L n r) i) e
--WALKS--
set_option maxHeartbeats 1600000 in
set_option maxRecDepth 100000 in
theorem rd_term_var (d : Int) (g : Got Tm) (W0 w : World) (rb : Nat) (A : Option Addr) (c n i : Nat) (L : List Sg) (hT : TabW W0) (hW : Below W0.heap.size W0 w) (hr0 : W0.heap.size ≤ rb) (hA : ∀ b o, A = some ⟨b, o, none⟩ → b < w.heap.size) (h : RdAt w rb A c n i L 0 0) (hk : ¬ (sgAt L i).k = 2) (hn : nmB L i = true) (hg : g = .ok (.mk 2 0 (tx L i) []) (i + 1)) :
    Calls Tryd.prog 71 #[.pointer (some ⟨rb, 0, none⟩), .int .i64 d] w fun e w' => GotT w w' rb A c n L g e := by
  subst hg
  have RA := Lib.hid h
  have HA := Lib.hid hA
  have TB := Lib.hid hT
  have HW := Lib.hid hW
  have hL := h.hL
  have hiL := h.hi
  have hrb := h.lt
  have hlt := there_n hn
  have HN : Hid (isNameL (tx L i).data.toList = true) := Lib.hid hn
  have HSZ : Hid ((tx L i).size ≤ maxLen) := Lib.hid (by have := name_len hn; rw [size_list] at this; unfold maxLen; omega)
  have hk2 : ((sgAt L i).k == 2) = false := beq_eq_false_iff_ne.2 hk
  clear h hA hn hk hT hW
  obtain ⟨K, hK⟩ : ∃ K, (sgAt L i).k = K := ⟨_, rfl⟩
  obtain ⟨P, hP⟩ : ∃ P, ((sgAt L i).p : Int) = P := ⟨_, rfl⟩
  obtain ⟨T, hTX⟩ : ∃ T, tx L i = T := ⟨_, rfl⟩
  have HK := Lib.hid hK
  have HP := Lib.hid hP
  have HTX := Lib.hid hTX
  (try rw [hK] at hk2)
  (try rw [hTX] at HN)
  (try rw [hTX] at HSZ)
  (try rw [hTX])
  clear hK hP hTX
  go_enter Tryd.func71, Tryd.ntmps71
  go_wp2_with fail
  refine (rd_next _ rb A c n i L 0 0 (RA.out.below (Below.alloc (Below.refl w.heap.size w) (Nat.le_refl _) (.cells #[.int .i64 0, .int .i64 0, .string ByteArray.empty, .slice none 0 0] 65)))).mono ?_
  rintro e w1 ⟨rfl, b1⟩
  rw [HK.out, HTX.out, HP.out]
  have B1 : Hid (Below w.heap.size w w1) := Lib.hid (Below.trans (Below.alloc (Below.refl _ _) (Nat.le_refl _) _) (b1.mono (by simp)))
  have R1 := Lib.hid (RA.out.below B1.out)
  have hv : w1.heap[w.heap.size]? = some (.cells #[.int .i64 0, .int .i64 0, .string ByteArray.empty, .slice none 0 0] 65 (0, 0)) := (b1.block _ (by simp)).trans (heap_alloc_new _ _)
  have HV := Lib.hid hv
  obtain ⟨v0, v1, v2, v3⟩ := term_cells hv
  have f0 := Lib.frozen_of_heap hv 0
  have f1 := Lib.frozen_of_heap hv 1
  have f2 := Lib.frozen_of_heap hv 2
  have f3 := Lib.frozen_of_heap hv 3
  have hz := lt_of_block hv
  have hrb1 := R1.out.lt
  obtain ⟨_, _, q2, _, _⟩ := R1.out.cs
  have g2 := R1.out.fz 2
  have hg0 : ¬ w.heap.size = rb := by omega
  have hg1 : ¬ rb = w.heap.size := by omega
  have HA1 : Hid (∀ b o, A = some ⟨b, o, none⟩ → b ≠ w.heap.size) := Lib.hid (fun b o e => by have := HA.out b o e; omega)
  generalize hg : w.heap.size = g0 at *
  have HGG := Lib.hid hg
  clear b1 hv hg
  go_wp2_with fail
  refine (impl_IsName _ _).mono ?_
  rintro e w2 ⟨rfl, rfl⟩
  rw [HN.out]
  go_wp2_with fail
  have HVb : (w1.setCell ⟨rb, 2, none⟩ (.int .i64 ((i : Int) + 1))).heap[g0]? = some (.cells #[.int .i64 0, .int .i64 0, .string ByteArray.empty, .slice none 0 0] 65 (0, 0)) := (Below.heap_setCell w1 ⟨rb, 2, none⟩ _ g0 hg0).trans HV.out
  have K1 : KeepR rb w w1 := KeepR.of_below' (by rw [HGG.out]; exact B1.out)
  obtain ⟨W, hWW⟩ : ∃ W, (((((w1.setCell ⟨rb, 2, none⟩ (.int .i64 ((i : Int) + 1))).setCell ⟨g0, 0, none⟩ (.int .i64 2)).setCell ⟨g0, 1, none⟩ (.int .i64 0)).setCell ⟨g0, 2, none⟩ (.string T)).setCell ⟨g0, 3, none⟩ (.slice none 0 0)).alloc (.cells #[.int .i64 K, .string T, .int .i64 P] 62) = W := ⟨_, rfl⟩
  have hWg : W.heap[g0]? = some (.cells #[.int .i64 2, .int .i64 0, .string T, .slice none 0 0] 65 (0, 0)) := by
    rw [← hWW]
    exact (heap_alloc_lt (by simp; omega)).trans (term_set HVb _ _ _ _)
  have RW : RdAt W rb A c n (i + 1) L 0 0 := by
    rw [← hWW]
    exact ((R1.out.seti1 (by omega)).set4 hg0 HA1.out _ _ _ _).below (Below.alloc (Below.refl _ _) (Nat.le_refl _) _)
  have KW : KeepR rb w W := by
    rw [← hWW]
    exact (set_keep4 (K1.setCell (p := ⟨rb, 2, none⟩) (by simp) _) (by rw [HGG.out]; exact Nat.le_refl _) _ _ _ _).alloc _
  obtain ⟨y0, y1, y2, y3⟩ := term_cells hWg
  rw [hWW]
  clear hWg hWW
  refine bodyPost_ret (v := .tuple #[.agg #[.int .i64 2, .int .i64 0, .string T, .slice none 0 0], .bool true]) (by simp [results, Tryd.results71, go_sem, y0, y1, y2, y3]) rfl ?_
  exact ⟨KW, 2, 0, T, none, 0, 0, rfl, TmO.leaf (by unfold i64in; omega) (by unfold i64in; omega) HSZ.out, RW⟩
set_option maxHeartbeats 1600000 in
set_option maxRecDepth 100000 in
theorem rd_term_num (d : Int) (g : Got Tm) (W0 w : World) (rb : Nat) (A : Option Addr) (c n i : Nat) (L : List Sg) (hT : TabW W0) (hW : Below W0.heap.size W0 w) (hr0 : W0.heap.size ≤ rb) (hA : ∀ b o, A = some ⟨b, o, none⟩ → b < w.heap.size) (h : RdAt w rb A c n i L 0 0) (hk : (sgAt L i).k = 2) (hg : g = .ok (.mk 1 (readD (tx L i)).1 ⟨#[]⟩ []) (i + 1)) :
    Calls Tryd.prog 71 #[.pointer (some ⟨rb, 0, none⟩), .int .i64 d] w fun e w' => GotT w w' rb A c n L g e := by
  subst hg
  have RA := Lib.hid h
  have HA := Lib.hid hA
  have TB := Lib.hid hT
  have HW := Lib.hid hW
  have hL := h.hL
  have hiL := h.hi
  have hrb := h.lt
  have hlt := there_k hk
  have hk2 : ((sgAt L i).k == 2) = true := beq_iff_eq.2 hk
  have HBD := Lib.hid (readD_bd (tx L i))
  clear h hA hk hT hW
  obtain ⟨K, hK⟩ : ∃ K, (sgAt L i).k = K := ⟨_, rfl⟩
  obtain ⟨P, hP⟩ : ∃ P, ((sgAt L i).p : Int) = P := ⟨_, rfl⟩
  obtain ⟨T, hTX⟩ : ∃ T, tx L i = T := ⟨_, rfl⟩
  have HK := Lib.hid hK
  have HP := Lib.hid hP
  have HTX := Lib.hid hTX
  (try rw [hK] at hk2)
  (try rw [hTX] at HN)
  (try rw [hTX] at HSZ)
  (try rw [hTX])
  clear hK hP hTX
  rw [HTX.out] at HBD
  go_enter Tryd.func71, Tryd.ntmps71
  go_wp2_with fail
  refine (rd_next _ rb A c n i L 0 0 (RA.out.below (Below.alloc (Below.refl w.heap.size w) (Nat.le_refl _) (.cells #[.int .i64 0, .int .i64 0, .string ByteArray.empty, .slice none 0 0] 65)))).mono ?_
  rintro e w1 ⟨rfl, b1⟩
  rw [HK.out, HTX.out, HP.out]
  have B1 : Hid (Below w.heap.size w w1) := Lib.hid (Below.trans (Below.alloc (Below.refl _ _) (Nat.le_refl _) _) (b1.mono (by simp)))
  have R1 := Lib.hid (RA.out.below B1.out)
  have hv : w1.heap[w.heap.size]? = some (.cells #[.int .i64 0, .int .i64 0, .string ByteArray.empty, .slice none 0 0] 65 (0, 0)) := (b1.block _ (by simp)).trans (heap_alloc_new _ _)
  have HV := Lib.hid hv
  obtain ⟨v0, v1, v2, v3⟩ := term_cells hv
  have f0 := Lib.frozen_of_heap hv 0
  have f1 := Lib.frozen_of_heap hv 1
  have f2 := Lib.frozen_of_heap hv 2
  have f3 := Lib.frozen_of_heap hv 3
  have hz := lt_of_block hv
  have hrb1 := R1.out.lt
  obtain ⟨_, _, q2, _, _⟩ := R1.out.cs
  have g2 := R1.out.fz 2
  have hg0 : ¬ w.heap.size = rb := by omega
  have hg1 : ¬ rb = w.heap.size := by omega
  have HA1 : Hid (∀ b o, A = some ⟨b, o, none⟩ → b ≠ w.heap.size) := Lib.hid (fun b o e => by have := HA.out b o e; omega)
  generalize hg : w.heap.size = g0 at *
  have HGG := Lib.hid hg
  clear b1 hv hg
  go_wp2_with fail
  have BM : Below W0.heap.size W0 ((w1.setCell ⟨rb, 2, none⟩ (.int .i64 ((i : Int) + 1))).alloc (.cells #[.int .i64 K, .string T, .int .i64 P] 62)) := by
    have h1 : KeepR rb w w1 := KeepR.of_below' (by rw [HGG.out]; exact B1.out)
    exact KeepR.base ((h1.setCell (p := ⟨rb, 2, none⟩) (by simp) _).alloc _) HW.out hr0
  refine (impl_ReadDecimal T _ (TB.out.rd BM)).mono ?_
  rintro e w2 ⟨rfl, b2⟩
  have HV2 : Hid (w2.heap[g0]? = some (.cells #[.int .i64 0, .int .i64 0, .string ByteArray.empty, .slice none 0 0] 65 (0, 0))) := Lib.hid ((b2.block g0 (by simp; omega)).trans ((heap_alloc_lt (by simp; omega)).trans ((Below.heap_setCell w1 ⟨rb, 2, none⟩ _ g0 hg0).trans HV.out)))
  have R2 := Lib.hid (((R1.out.seti1 (by omega)).below (Below.alloc (Below.refl _ _) (Nat.le_refl _) (.cells #[.int .i64 K, .string T, .int .i64 P] 62))).below b2)
  have K2 : Hid (KeepR rb w w2) := Lib.hid (by
    have h1 : KeepR rb w w1 := KeepR.of_below' (by rw [HGG.out]; exact B1.out)
    exact KeepR.trans' ((h1.setCell (p := ⟨rb, 2, none⟩) (by simp) _).alloc _) (KeepR.of_below' b2))
  obtain ⟨N, hN⟩ : ∃ N, (readD T).1 = N := ⟨_, rfl⟩
  rw [hN] at HBD ⊢
  have HNN := Lib.hid hN
  clear v0 v1 v2 v3 f0 f1 f2 f3
  clear b2 BM hN hz q2 g2
  obtain ⟨v0, v1, v2, v3⟩ := term_cells HV2.out
  have f0 := Lib.frozen_of_heap HV2.out 0
  have f1 := Lib.frozen_of_heap HV2.out 1
  have f2 := Lib.frozen_of_heap HV2.out 2
  have f3 := Lib.frozen_of_heap HV2.out 3
  have hz := lt_of_block HV2.out
  go_wp2_with fail
  obtain ⟨W, hWW⟩ : ∃ W, ((((w2.setCell ⟨g0, 0, none⟩ (.int .i64 1)).setCell ⟨g0, 1, none⟩ (.int .i64 N)).setCell ⟨g0, 2, none⟩ (.string ⟨#[]⟩)).setCell ⟨g0, 3, none⟩ (.slice none 0 0)) = W := ⟨_, rfl⟩
  have hWg : W.heap[g0]? = some (.cells #[.int .i64 1, .int .i64 N, .string ⟨#[]⟩, .slice none 0 0] 65 (0, 0)) := by
    rw [← hWW]
    exact term_set HV2.out _ _ _ _
  have RW : RdAt W rb A c n (i + 1) L 0 0 := by
    rw [← hWW]
    exact (R2.out).set4 hg0 HA1.out _ _ _ _
  have KW : KeepR rb w W := by
    rw [← hWW]
    exact set_keep4 (K2.out) (by rw [HGG.out]; exact Nat.le_refl _) _ _ _ _
  obtain ⟨y0, y1, y2, y3⟩ := term_cells hWg
  rw [hWW]
  clear hWg hWW
  refine bodyPost_ret (v := .tuple #[.agg #[.int .i64 1, .int .i64 N, .string ⟨#[]⟩, .slice none 0 0], .bool true]) (by simp [results, Tryd.results71, go_sem, y0, y1, y2, y3]) rfl ?_
  refine ⟨KW, 1, N, ⟨#[]⟩, none, 0, 0, rfl, ?_, RW⟩
  rw [HNN.out]
  exact TmO.leaf (k := 1) (m := N) (s := ⟨#[]⟩) (by unfold i64in; omega) HBD.out (Nat.zero_le _)
set_option maxHeartbeats 1600000 in
set_option maxRecDepth 100000 in
theorem rd_term_bad (d : Int) (g : Got Tm) (W0 w : World) (rb : Nat) (A : Option Addr) (c n i : Nat) (L : List Sg) (hT : TabW W0) (hW : Below W0.heap.size W0 w) (hr0 : W0.heap.size ≤ rb) (hA : ∀ b o, A = some ⟨b, o, none⟩ → b < w.heap.size) (h : RdAt w rb A c n i L 0 0) (hk : ¬ (sgAt L i).k = 2) (hn : nmB L i = false) (hp : ¬ tx L i = ⟨#[40]⟩) (hg : g = .bad 3 (posAt L n i)) :
    Calls Tryd.prog 71 #[.pointer (some ⟨rb, 0, none⟩), .int .i64 d] w fun e w' => GotT w w' rb A c n L g e := by
  subst hg
  have RA := Lib.hid h
  have HA := Lib.hid hA
  have TB := Lib.hid hT
  have HW := Lib.hid hW
  have hL := h.hL
  have hiL := h.hi
  have hrb := h.lt
  have HN : Hid (isNameL (tx L i).data.toList = false) := Lib.hid hn
  have hk2 : ((sgAt L i).k == 2) = false := beq_eq_false_iff_ne.2 hk
  have hss4 := txt_lit (l := [40]) hp
  clear hp
  clear h hA hk hn hT hW
  obtain ⟨K, hK⟩ : ∃ K, (sgAt L i).k = K := ⟨_, rfl⟩
  obtain ⟨P, hP⟩ : ∃ P, ((sgAt L i).p : Int) = P := ⟨_, rfl⟩
  obtain ⟨T, hTX⟩ : ∃ T, tx L i = T := ⟨_, rfl⟩
  have HK := Lib.hid hK
  have HP := Lib.hid hP
  have HTX := Lib.hid hTX
  (try rw [hK] at hk2)
  (try rw [hTX] at HN)
  (try rw [hTX] at HSZ)
  (try rw [hTX])
  clear hK hP hTX
  rw [HTX.out] at hss4
  go_enter Tryd.func71, Tryd.ntmps71
  go_wp2_with fail
  refine (rd_next _ rb A c n i L 0 0 (RA.out.below (Below.alloc (Below.refl w.heap.size w) (Nat.le_refl _) (.cells #[.int .i64 0, .int .i64 0, .string ByteArray.empty, .slice none 0 0] 65)))).mono ?_
  rintro e w1 ⟨rfl, b1⟩
  rw [HK.out, HTX.out, HP.out]
  have B1 : Hid (Below w.heap.size w w1) := Lib.hid (Below.trans (Below.alloc (Below.refl _ _) (Nat.le_refl _) _) (b1.mono (by simp)))
  have R1 := Lib.hid (RA.out.below B1.out)
  have hv : w1.heap[w.heap.size]? = some (.cells #[.int .i64 0, .int .i64 0, .string ByteArray.empty, .slice none 0 0] 65 (0, 0)) := (b1.block _ (by simp)).trans (heap_alloc_new _ _)
  have HV := Lib.hid hv
  obtain ⟨v0, v1, v2, v3⟩ := term_cells hv
  have f0 := Lib.frozen_of_heap hv 0
  have f1 := Lib.frozen_of_heap hv 1
  have f2 := Lib.frozen_of_heap hv 2
  have f3 := Lib.frozen_of_heap hv 3
  have hz := lt_of_block hv
  have hrb1 := R1.out.lt
  obtain ⟨_, _, q2, _, _⟩ := R1.out.cs
  have g2 := R1.out.fz 2
  have hg0 : ¬ w.heap.size = rb := by omega
  have hg1 : ¬ rb = w.heap.size := by omega
  have HA1 : Hid (∀ b o, A = some ⟨b, o, none⟩ → b ≠ w.heap.size) := Lib.hid (fun b o e => by have := HA.out b o e; omega)
  generalize hg : w.heap.size = g0 at *
  have HGG := Lib.hid hg
  clear b1 hv hg
  go_wp2_with fail
  refine (impl_IsName _ _).mono ?_
  rintro e w2 ⟨rfl, rfl⟩
  rw [HN.out]
  go_wp2_with fail
  refine (rd_fail 3 _ rb A c n i L 0 (R1.out.below (Below.alloc (Below.refl w1.heap.size w1) (Nat.le_refl _) (.cells #[.int .i64 K, .string T, .int .i64 P] 62)))).mono ?_
  rintro e w2 ⟨rfl, r2, k2⟩
  have HV2 : Hid (w2.heap[g0]? = some (.cells #[.int .i64 0, .int .i64 0, .string ByteArray.empty, .slice none 0 0] 65 (0, 0))) := Lib.hid ((k2.block g0 (by simp; omega) hg0).trans ((heap_alloc_lt (by omega)).trans HV.out))
  have R2 := Lib.hid r2
  have K2 : Hid (KeepR rb w w2) := Lib.hid (by
    have h1 : KeepR rb w w1 := KeepR.of_below' (by rw [HGG.out]; exact B1.out)
    exact KeepR.trans' (h1.alloc _) k2)
  clear v0 v1 v2 v3 f0 f1 f2 f3
  clear r2 k2 hz q2 g2
  obtain ⟨v0, v1, v2, v3⟩ := term_cells HV2.out
  have f0 := Lib.frozen_of_heap HV2.out 0
  have f1 := Lib.frozen_of_heap HV2.out 1
  have f2 := Lib.frozen_of_heap HV2.out 2
  have f3 := Lib.frozen_of_heap HV2.out 3
  have hz := lt_of_block HV2.out
  go_wp2_with fail
  obtain ⟨W, hWW⟩ : ∃ W, ((((w2.setCell ⟨g0, 0, none⟩ (.int .i64 0)).setCell ⟨g0, 1, none⟩ (.int .i64 0)).setCell ⟨g0, 2, none⟩ (.string ⟨#[]⟩)).setCell ⟨g0, 3, none⟩ (.slice none 0 0)) = W := ⟨_, rfl⟩
  have hWg : W.heap[g0]? = some (.cells #[.int .i64 0, .int .i64 0, .string ⟨#[]⟩, .slice none 0 0] 65 (0, 0)) := by
    rw [← hWW]
    exact term_set HV2.out _ _ _ _
  have RW : RdAt W rb A c n i L 3 (posAt L n i) := by
    rw [← hWW]
    exact (R2.out).set4 hg0 HA1.out _ _ _ _
  have KW : KeepR rb w W := by
    rw [← hWW]
    exact set_keep4 (K2.out) (by rw [HGG.out]; exact Nat.le_refl _) _ _ _ _
  obtain ⟨y0, y1, y2, y3⟩ := term_cells hWg
  rw [hWW]
  clear hWg hWW
  refine bodyPost_ret (v := .tuple #[.agg #[.int .i64 0, .int .i64 0, .string ⟨#[]⟩, .slice none 0 0], .bool false]) (by simp [results, Tryd.results71, go_sem, y0, y1, y2, y3]) rfl ?_
  exact ⟨KW, i, rfl, RW⟩
set_option maxHeartbeats 1600000 in
set_option maxRecDepth 100000 in
theorem rd_term_deep (d : Int) (g : Got Tm) (W0 w : World) (rb : Nat) (A : Option Addr) (c n i : Nat) (L : List Sg) (hT : TabW W0) (hW : Below W0.heap.size W0 w) (hr0 : W0.heap.size ≤ rb) (hA : ∀ b o, A = some ⟨b, o, none⟩ → b < w.heap.size) (h : RdAt w rb A c n i L 0 0) (hk : ¬ (sgAt L i).k = 2) (hn : nmB L i = false) (hp : tx L i = ⟨#[40]⟩) (hd : (d == 6) = true) (hg : g = .bad 4 (posAt L n i)) :
    Calls Tryd.prog 71 #[.pointer (some ⟨rb, 0, none⟩), .int .i64 d] w fun e w' => GotT w w' rb A c n L g e := by
  subst hg
  have RA := Lib.hid h
  have HA := Lib.hid hA
  have TB := Lib.hid hT
  have HW := Lib.hid hW
  have hL := h.hL
  have hiL := h.hi
  have hrb := h.lt
  have HN : Hid (isNameL (tx L i).data.toList = false) := Lib.hid hn
  have hk2 : ((sgAt L i).k == 2) = false := beq_eq_false_iff_ne.2 hk
  have hss4 := txt_lity (l := [40]) hp
  clear hp
  clear h hA hk hn hT hW
  obtain ⟨K, hK⟩ : ∃ K, (sgAt L i).k = K := ⟨_, rfl⟩
  obtain ⟨P, hP⟩ : ∃ P, ((sgAt L i).p : Int) = P := ⟨_, rfl⟩
  obtain ⟨T, hTX⟩ : ∃ T, tx L i = T := ⟨_, rfl⟩
  have HK := Lib.hid hK
  have HP := Lib.hid hP
  have HTX := Lib.hid hTX
  (try rw [hK] at hk2)
  (try rw [hTX] at HN)
  (try rw [hTX] at HSZ)
  (try rw [hTX])
  clear hK hP hTX
  rw [HTX.out] at hss4
  go_enter Tryd.func71, Tryd.ntmps71
  go_wp2_with fail
  refine (rd_next _ rb A c n i L 0 0 (RA.out.below (Below.alloc (Below.refl w.heap.size w) (Nat.le_refl _) (.cells #[.int .i64 0, .int .i64 0, .string ByteArray.empty, .slice none 0 0] 65)))).mono ?_
  rintro e w1 ⟨rfl, b1⟩
  rw [HK.out, HTX.out, HP.out]
  have B1 : Hid (Below w.heap.size w w1) := Lib.hid (Below.trans (Below.alloc (Below.refl _ _) (Nat.le_refl _) _) (b1.mono (by simp)))
  have R1 := Lib.hid (RA.out.below B1.out)
  have hv : w1.heap[w.heap.size]? = some (.cells #[.int .i64 0, .int .i64 0, .string ByteArray.empty, .slice none 0 0] 65 (0, 0)) := (b1.block _ (by simp)).trans (heap_alloc_new _ _)
  have HV := Lib.hid hv
  obtain ⟨v0, v1, v2, v3⟩ := term_cells hv
  have f0 := Lib.frozen_of_heap hv 0
  have f1 := Lib.frozen_of_heap hv 1
  have f2 := Lib.frozen_of_heap hv 2
  have f3 := Lib.frozen_of_heap hv 3
  have hz := lt_of_block hv
  have hrb1 := R1.out.lt
  obtain ⟨_, _, q2, _, _⟩ := R1.out.cs
  have g2 := R1.out.fz 2
  have hg0 : ¬ w.heap.size = rb := by omega
  have hg1 : ¬ rb = w.heap.size := by omega
  have HA1 : Hid (∀ b o, A = some ⟨b, o, none⟩ → b ≠ w.heap.size) := Lib.hid (fun b o e => by have := HA.out b o e; omega)
  generalize hg : w.heap.size = g0 at *
  have HGG := Lib.hid hg
  clear b1 hv hg
  go_wp2_with fail
  refine (impl_IsName _ _).mono ?_
  rintro e w2 ⟨rfl, rfl⟩
  rw [HN.out]
  go_wp2_with fail
  refine (rd_fail 4 _ rb A c n i L 0 (R1.out.below (Below.alloc (Below.refl w1.heap.size w1) (Nat.le_refl _) (.cells #[.int .i64 K, .string T, .int .i64 P] 62)))).mono ?_
  rintro e w2 ⟨rfl, r2, k2⟩
  have HV2 : Hid (w2.heap[g0]? = some (.cells #[.int .i64 0, .int .i64 0, .string ByteArray.empty, .slice none 0 0] 65 (0, 0))) := Lib.hid ((k2.block g0 (by simp; omega) hg0).trans ((heap_alloc_lt (by omega)).trans HV.out))
  have R2 := Lib.hid r2
  have K2 : Hid (KeepR rb w w2) := Lib.hid (by
    have h1 : KeepR rb w w1 := KeepR.of_below' (by rw [HGG.out]; exact B1.out)
    exact KeepR.trans' (h1.alloc _) k2)
  clear v0 v1 v2 v3 f0 f1 f2 f3
  clear r2 k2 hz q2 g2
  obtain ⟨v0, v1, v2, v3⟩ := term_cells HV2.out
  have f0 := Lib.frozen_of_heap HV2.out 0
  have f1 := Lib.frozen_of_heap HV2.out 1
  have f2 := Lib.frozen_of_heap HV2.out 2
  have f3 := Lib.frozen_of_heap HV2.out 3
  have hz := lt_of_block HV2.out
  go_wp2_with fail
  obtain ⟨W, hWW⟩ : ∃ W, ((((w2.setCell ⟨g0, 0, none⟩ (.int .i64 0)).setCell ⟨g0, 1, none⟩ (.int .i64 0)).setCell ⟨g0, 2, none⟩ (.string ⟨#[]⟩)).setCell ⟨g0, 3, none⟩ (.slice none 0 0)) = W := ⟨_, rfl⟩
  have hWg : W.heap[g0]? = some (.cells #[.int .i64 0, .int .i64 0, .string ⟨#[]⟩, .slice none 0 0] 65 (0, 0)) := by
    rw [← hWW]
    exact term_set HV2.out _ _ _ _
  have RW : RdAt W rb A c n i L 4 (posAt L n i) := by
    rw [← hWW]
    exact (R2.out).set4 hg0 HA1.out _ _ _ _
  have KW : KeepR rb w W := by
    rw [← hWW]
    exact set_keep4 (K2.out) (by rw [HGG.out]; exact Nat.le_refl _) _ _ _ _
  obtain ⟨y0, y1, y2, y3⟩ := term_cells hWg
  rw [hWW]
  clear hWg hWW
  refine bodyPost_ret (v := .tuple #[.agg #[.int .i64 0, .int .i64 0, .string ⟨#[]⟩, .slice none 0 0], .bool false]) (by simp [results, Tryd.results71, go_sem, y0, y1, y2, y3]) rfl ?_
  exact ⟨KW, i, rfl, RW⟩
set_option maxHeartbeats 1600000 in
set_option maxRecDepth 100000 in
theorem rd_term_in (r : Nat) (hr : r ≤ 5) (ih : InC r) (g : Got Tm) (W0 w : World) (rb : Nat) (A : Option Addr) (c n i : Nat) (L : List Sg) (hT : TabW W0) (hW : Below W0.heap.size W0 w) (hr0 : W0.heap.size ≤ rb) (hA : ∀ b o, A = some ⟨b, o, none⟩ → b < w.heap.size) (h : RdAt w rb A c n i L 0 0) (hk : ¬ (sgAt L i).k = 2) (hn : nmB L i = false) (hp : tx L i = ⟨#[40]⟩) (hg : g = innT L n (rdT L n r) (i + 1)) :
    Calls Tryd.prog 71 #[.pointer (some ⟨rb, 0, none⟩), .int .i64 (6 - ((r + 1 : Nat) : Int))] w fun e w' => GotT w w' rb A c n L g e := by
  have RA := Lib.hid h
  have HA := Lib.hid hA
  have TB := Lib.hid hT
  have HW := Lib.hid hW
  have hL := h.hL
  have hiL := h.hi
  have hrb := h.lt
  have hlt : i < L.length := there_of (by rw [hp]; decide)
  have IH := Lib.hid ih
  have HG := Lib.hid hg
  have HN : Hid (isNameL (tx L i).data.toList = false) := Lib.hid hn
  have hk2 : ((sgAt L i).k == 2) = false := beq_eq_false_iff_ne.2 hk
  have hss4 := txt_lity (l := [40]) hp
  obtain ⟨d, hd⟩ : ∃ d : Int, 6 - ((r + 1 : Nat) : Int) = d := ⟨_, rfl⟩
  have hd0 : 0 ≤ d := by omega
  have hd5 : d ≤ 5 := by omega
  have hd6 : (d == 6) = false := beq_eq_false_iff_ne.2 (by omega)
  have HD : Hid (d + 1 = 6 - (r : Int)) := Lib.hid (by omega)
  rw [hd]
  clear h hA hk hn hT hW hp ih hg hd
  obtain ⟨K, hK⟩ : ∃ K, (sgAt L i).k = K := ⟨_, rfl⟩
  obtain ⟨P, hP⟩ : ∃ P, ((sgAt L i).p : Int) = P := ⟨_, rfl⟩
  obtain ⟨T, hTX⟩ : ∃ T, tx L i = T := ⟨_, rfl⟩
  have HK := Lib.hid hK
  have HP := Lib.hid hP
  have HTX := Lib.hid hTX
  (try rw [hK] at hk2)
  (try rw [hTX] at HN)
  (try rw [hTX] at HSZ)
  (try rw [hTX])
  clear hK hP hTX
  rw [HTX.out] at hss4
  go_enter Tryd.func71, Tryd.ntmps71
  go_wp2_with fail
  refine (rd_next _ rb A c n i L 0 0 (RA.out.below (Below.alloc (Below.refl w.heap.size w) (Nat.le_refl _) (.cells #[.int .i64 0, .int .i64 0, .string ByteArray.empty, .slice none 0 0] 65)))).mono ?_
  rintro e w1 ⟨rfl, b1⟩
  rw [HK.out, HTX.out, HP.out]
  have B1 : Hid (Below w.heap.size w w1) := Lib.hid (Below.trans (Below.alloc (Below.refl _ _) (Nat.le_refl _) _) (b1.mono (by simp)))
  have R1 := Lib.hid (RA.out.below B1.out)
  have hv : w1.heap[w.heap.size]? = some (.cells #[.int .i64 0, .int .i64 0, .string ByteArray.empty, .slice none 0 0] 65 (0, 0)) := (b1.block _ (by simp)).trans (heap_alloc_new _ _)
  have HV := Lib.hid hv
  obtain ⟨v0, v1, v2, v3⟩ := term_cells hv
  have f0 := Lib.frozen_of_heap hv 0
  have f1 := Lib.frozen_of_heap hv 1
  have f2 := Lib.frozen_of_heap hv 2
  have f3 := Lib.frozen_of_heap hv 3
  have hz := lt_of_block hv
  have hrb1 := R1.out.lt
  obtain ⟨_, _, q2, _, _⟩ := R1.out.cs
  have g2 := R1.out.fz 2
  have hg0 : ¬ w.heap.size = rb := by omega
  have hg1 : ¬ rb = w.heap.size := by omega
  have HA1 : Hid (∀ b o, A = some ⟨b, o, none⟩ → b ≠ w.heap.size) := Lib.hid (fun b o e => by have := HA.out b o e; omega)
  generalize hg : w.heap.size = g0 at *
  have HGG := Lib.hid hg
  clear b1 hv hg
  go_wp2_with fail
  refine (impl_IsName _ _).mono ?_
  rintro e w2 ⟨rfl, rfl⟩
  rw [HN.out]
  go_wp2_with fail
  rw [HD.out]
  have KM : KeepR rb w ((w1.setCell ⟨rb, 2, none⟩ (.int .i64 ((i : Int) + 1))).alloc (.cells #[.int .i64 K, .string T, .int .i64 P] 62)) := by
    have h1 : KeepR rb w w1 := KeepR.of_below' (by rw [HGG.out]; exact B1.out)
    exact (h1.setCell (p := ⟨rb, 2, none⟩) (by simp) _).alloc _
  refine (IH.out W0 _ rb A c n (i + 1) L TB.out (KeepR.base KM HW.out hr0) hr0 (fun b o e => by have := HA.out b o e; simp; omega) ((R1.out.seti1 (by omega)).below (Below.alloc (Below.refl _ _) (Nat.le_refl _) _))).mono ?_
  intro e w2 hret
  have HR : Hid (GotT ((w1.setCell ⟨rb, 2, none⟩ (.int .i64 ((i : Int) + 1))).alloc (.cells #[.int .i64 K, .string T, .int .i64 P] 62)) w2 rb A c n L (innT L n (rdT L n r) (i + 1)) e) := Lib.hid hret
  have HV2 : Hid (w2.heap[g0]? = some (.cells #[.int .i64 0, .int .i64 0, .string ByteArray.empty, .slice none 0 0] 65 (0, 0))) := Lib.hid ((hret.1.block g0 (by simp; omega) hg0).trans ((heap_alloc_lt (by simp; omega)).trans ((Below.heap_setCell w1 ⟨rb, 2, none⟩ _ g0 hg0).trans HV.out)))
  have K2 : Hid (KeepR rb w w2) := Lib.hid (KM.trans' hret.1)
  have hsz : g0 < ((w1.setCell ⟨rb, 2, none⟩ (.int .i64 ((i : Int) + 1))).alloc (.cells #[.int .i64 K, .string T, .int .i64 P] 62)).heap.size := by simp; omega
  have HSZ := Lib.hid hsz
  clear hret KM hsz
  generalize ((w1.setCell ⟨rb, 2, none⟩ (.int .i64 ((i : Int) + 1))).alloc (.cells #[.int .i64 K, .string T, .int .i64 P] 62)) = wm at *
  clear v0 v1 v2 v3 f0 f1 f2 f3
  clear hz q2 g2
  obtain ⟨v0, v1, v2, v3⟩ := term_cells HV2.out
  have f0 := Lib.frozen_of_heap HV2.out 0
  have f1 := Lib.frozen_of_heap HV2.out 1
  have f2 := Lib.frozen_of_heap HV2.out 2
  have f3 := Lib.frozen_of_heap HV2.out 3
  have hz := lt_of_block HV2.out
  cases hgg : innT L n (rdT L n r) (i + 1) with
  | bad fc fp =>
    rw [hgg] at HR
    obtain ⟨_, q, rfl, r2⟩ := HR.out.bad
    have R2 := Lib.hid r2
    clear r2
    have HG2 : Hid (g = .bad fc fp) := Lib.hid (by rw [HG.out, hgg])
    go_wp2_with fail
    obtain ⟨W, hWW⟩ : ∃ W, ((((w2.setCell ⟨g0, 0, none⟩ (.int .i64 0)).setCell ⟨g0, 1, none⟩ (.int .i64 0)).setCell ⟨g0, 2, none⟩ (.string ⟨#[]⟩)).setCell ⟨g0, 3, none⟩ (.slice none 0 0)) = W := ⟨_, rfl⟩
    have hWg : W.heap[g0]? = some (.cells #[.int .i64 0, .int .i64 0, .string ⟨#[]⟩, .slice none 0 0] 65 (0, 0)) := by
      rw [← hWW]
      exact term_set HV2.out _ _ _ _
    have RW : RdAt W rb A c n q L fc fp := by
      rw [← hWW]
      exact (R2.out).set4 hg0 HA1.out _ _ _ _
    have KW : KeepR rb w W := by
      rw [← hWW]
      exact set_keep4 (K2.out) (by rw [HGG.out]; exact Nat.le_refl _) _ _ _ _
    obtain ⟨y0, y1, y2, y3⟩ := term_cells hWg
    rw [hWW]
    clear hWg hWW
    refine bodyPost_ret (v := .tuple #[.agg #[.int .i64 0, .int .i64 0, .string ⟨#[]⟩, .slice none 0 0], .bool false]) (by simp [results, Tryd.results71, go_sem, y0, y1, y2, y3]) rfl ?_
    rw [HG2.out]
    exact ⟨KW, q, rfl, RW⟩
  | ok t q =>
    rw [hgg] at HR
    obtain ⟨_, tk, tm, ts, tA, tl, tc, rfl, tof, r2⟩ := HR.out.ok
    have R2 := Lib.hid r2
    have T2 : Hid (TmO w2 (Made wm w2) [.int .i64 tk, .int .i64 tm, .string ts, .slice tA tl tc] t) := Lib.hid tof
    clear r2 tof
    have HG2 : Hid (g = .ok t q) := Lib.hid (by rw [HG.out, hgg])
    go_wp2_with fail
    obtain ⟨W, hWW⟩ : ∃ W, ((((w2.setCell ⟨g0, 0, none⟩ (.int .i64 tk)).setCell ⟨g0, 1, none⟩ (.int .i64 tm)).setCell ⟨g0, 2, none⟩ (.string ts)).setCell ⟨g0, 3, none⟩ (.slice tA tl tc)) = W := ⟨_, rfl⟩
    have hWg : W.heap[g0]? = some (.cells #[.int .i64 tk, .int .i64 tm, .string ts, .slice tA tl tc] 65 (0, 0)) := by
      rw [← hWW]
      exact term_set HV2.out _ _ _ _
    have RW : RdAt W rb A c n q L 0 0 := by
      rw [← hWW]
      exact (R2.out).set4 hg0 HA1.out _ _ _ _
    have KW : KeepR rb w W := by
      rw [← hWW]
      exact set_keep4 (K2.out) (by rw [HGG.out]; exact Nat.le_refl _) _ _ _ _
    have TW : TmO W (Made w W) [.int .i64 tk, .int .i64 tm, .string ts, .slice tA tl tc] t := by
      have hw : w2.heap.size = W.heap.size := by rw [← hWW]; simp
      have t3 := T2.out.set4 (g := g0) (fun hF => by have := hF.1; have := HSZ.out; omega) (.int .i64 tk) (.int .i64 tm) (.string ts) (.slice tA tl tc)
      rw [hWW] at t3
      exact t3.sub (fun b hF => ⟨by have := hF.1; have := HSZ.out; rw [HGG.out]; omega, by have := hF.2; omega⟩)
    obtain ⟨y0, y1, y2, y3⟩ := term_cells hWg
    rw [hWW]
    clear hWg hWW
    refine bodyPost_ret (v := .tuple #[.agg #[.int .i64 tk, .int .i64 tm, .string ts, .slice tA tl tc], .bool true]) (by simp [results, Tryd.results71, go_sem, y0, y1, y2, y3]) rfl ?_
    rw [HG2.out]
    exact ⟨KW, tk, tm, ts, tA, tl, tc, rfl, TW, RW⟩
end Go.Proofs.YtdanlgmpgdipnaaDoor
