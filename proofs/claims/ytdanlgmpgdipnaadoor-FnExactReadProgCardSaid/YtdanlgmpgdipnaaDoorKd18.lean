/- Several texts in one: RdInner. -/
import Derived.Test.YtdanlgmpgdipnaaDoorKd16
namespace Go.Proofs.YtdanlgmpgdipnaaDoor
open Go.RowKit
set_option linter.unusedVariables false


theorem TmRowO.one {W : World} {F G : Nat → Prop} {row : Nat} {e : TypeId} {t : Tm} {k m : Int} {s : ByteArray} {A : Option Addr} {l c : Nat} (hT : TmO W G [.int .i64 k, .int .i64 m, .string s, .slice A l c] t)
    (hr : W.heap[row]? = some (.cells #[.int .i64 k, .int .i64 m, .string s, .slice A l c] e (0, 0))) (hF : F row) (hGF : ∀ b, G b → F b) (hn : ¬ G row) : TmRowO W F (some ⟨row, 0, none⟩) [t] := by
  refine ⟨[.int .i64 k, .int .i64 m, .string s, .slice A l c], fun _ => G, ⟨⟨rfl, fun _ => ⟨row, 0, rfl, fun j x hx => ?_⟩⟩, fun _ => ⟨row, 0, _, _, rfl, hF, hr, fun _ _ => hn⟩, fun _ b _ hb => hGF b hb, fun i j b hi hj hne _ _ => by simp at hi hj; omega⟩, fun i hi => ?_⟩
  · rw [Lib.cell_of_heap hr]
    rw [Nat.zero_add]
    simpa using hx
  · have : i = 0 := by simp at hi; omega
    subst this
    exact hT
theorem TmRowO.two {W : World} {F G G' : Nat → Prop} {row : Nat} {e : TypeId} {t t' : Tm} {k m : Int} {s : ByteArray} {A : Option Addr} {l c : Nat} {k' m' : Int} {s' : ByteArray} {A' : Option Addr} {l' c' : Nat}
    (hT : TmO W G [.int .i64 k, .int .i64 m, .string s, .slice A l c] t) (hT' : TmO W G' [.int .i64 k', .int .i64 m', .string s', .slice A' l' c'] t')
    (hr : W.heap[row]? = some (.cells #[.int .i64 k, .int .i64 m, .string s, .slice A l c, .int .i64 k', .int .i64 m', .string s', .slice A' l' c'] e (0, 0))) (hF : F row) (hGF : ∀ b, G b → F b) (hGF' : ∀ b, G' b → F b) (hn : ¬ G row) (hn' : ¬ G' row) (hd : ∀ b, G b → G' b → False) :
    TmRowO W F (some ⟨row, 0, none⟩) [t, t'] := by
  refine ⟨[.int .i64 k, .int .i64 m, .string s, .slice A l c, .int .i64 k', .int .i64 m', .string s', .slice A' l' c'], fun i => if i = 0 then G else G', ⟨⟨rfl, fun _ => ⟨row, 0, rfl, fun j x hx => ?_⟩⟩, fun _ => ⟨row, 0, _, _, rfl, hF, hr, fun i _ => ?_⟩, fun i b _ hb => ?_, fun i j b hi hj hne h1 h2 => ?_⟩, fun i hi => ?_⟩
  · rw [Lib.cell_of_heap hr]
    rw [Nat.zero_add]
    simpa using hx
  · dsimp only
    split
    · exact hn
    · exact hn'
  · dsimp only at hb
    split at hb
    · exact hGF b hb
    · exact hGF' b hb
  · dsimp only at h1 h2
    simp only [List.length_cons, List.length_nil] at hi hj
    split at h1
    · rw [if_neg (by omega)] at h2
      exact hd b h1 h2
    · rw [if_pos (by omega)] at h2
      exact hd b h2 h1
  · have hi2 : i = 0 ∨ i = 1 := by simp at hi; omega
    rcases hi2 with rfl | rfl
    · exact hT
    · exact hT'
theorem innT_not {L : List Sg} {n i : Nat} {rd : Nat → Got Tm} (h : tx L i = ⟨#[110, 111, 116]⟩) : innT L n rd i = (match rd (i + 1) with | .bad c p => .bad c p | .ok x q => closeT L n (.mk 8 0 ⟨#[]⟩ [x]) q) := by unfold innT; rw [if_pos h]; rfl
theorem innT_two {L : List Sg} {n i : Nat} {rd : Nat → Got Tm} (h : ¬ tx L i = ⟨#[110, 111, 116]⟩) : innT L n rd i = (match rd i with | .bad c p => .bad c p | .ok a q => if kindOf (tx L q) = 0 then .bad 3 (posAt L n q) else match rd (q + 1) with | .bad c p => .bad c p | .ok b q2 => closeT L n (.mk (kindOf (tx L q)) 0 ⟨#[]⟩ [a, b]) q2) := by unfold innT; rw [if_neg h]; rfl
theorem closeT_yes {L : List Sg} {n q : Nat} {t : Tm} (h : tx L q = ⟨#[41]⟩) : closeT L n t q = .ok t (q + 1) := by unfold closeT; rw [if_pos h]
theorem closeT_no {L : List Sg} {n q : Nat} {t : Tm} (h : ¬ tx L q = ⟨#[41]⟩) : closeT L n t q = .bad 3 (posAt L n q) := by unfold closeT; rw [if_neg h]
theorem set4_block {w : World} {g b : Nat} {x y z u : Value} (h : b ≠ g) : ((((w.setCell ⟨g, 0, none⟩ x).setCell ⟨g, 1, none⟩ y).setCell ⟨g, 2, none⟩ z).setCell ⟨g, 3, none⟩ u).heap[b]? = w.heap[b]? :=
  (((Below.heap_setCell _ ⟨g, 3, none⟩ u b h).trans (Below.heap_setCell _ ⟨g, 2, none⟩ z b h)).trans (Below.heap_setCell _ ⟨g, 1, none⟩ y b h)).trans (Below.heap_setCell _ ⟨g, 0, none⟩ x b h)
set_option maxHeartbeats 3200000 in
set_option maxRecDepth 100000 in
theorem rd_inner_not (r : Nat) (hr : r ≤ 6) (ih : TrC r) (W0 w : World) (rb : Nat) (A : Option Addr) (c n i : Nat) (L : List Sg) (hT : TabW W0) (hW : Below W0.heap.size W0 w) (hr0 : W0.heap.size ≤ rb) (hA : ∀ b o, A = some ⟨b, o, none⟩ → b < w.heap.size) (h : RdAt w rb A c n i L 0 0) (hp : tx L i = ⟨#[110, 111, 116]⟩) :
    Calls Tryd.prog 74 #[.pointer (some ⟨rb, 0, none⟩), .int .i64 (6 - (r : Int))] w fun e w' => GotT w w' rb A c n L (innT L n (rdT L n r) i) e := by
  have RA := Lib.hid h
  have HA := Lib.hid hA
  have TB := Lib.hid hT
  have HW := Lib.hid hW
  have IH := Lib.hid ih
  have hL := h.hL
  have hiL := h.hi
  have hrb := h.lt
  have hfd := sg_field
  have hlt : i < L.length := there_of (by rw [hp]; decide)
  have HI := Lib.hid (innT_not (n := n) (rd := rdT L n r) hp)
  have hss4 := txt_lity (l := [110, 111, 116]) hp
  clear h hA hT hW hp ih
  obtain ⟨T, hTX⟩ : ∃ T, tx L i = T := ⟨_, rfl⟩
  have HTX := Lib.hid hTX
  rw [hTX] at hss4
  clear hTX
  go_enter Tryd.func74, Tryd.ntmps74
  go_wp2_with fail
  refine (rd_next _ rb A c n i L 0 0 (RA.out.below (Below.alloc (Below.refl w.heap.size w) (Nat.le_refl _) (.cells #[.int .i64 0, .int .i64 0, .string ByteArray.empty, .slice none 0 0] 65)))).mono ?_
  rintro e w1 ⟨rfl, b1⟩
  rw [HTX.out]
  have B1 : Hid (Below w.heap.size w w1) := Lib.hid (Below.trans (Below.alloc (Below.refl _ _) (Nat.le_refl _) _) (b1.mono (by simp)))
  have R1 := Lib.hid (RA.out.below B1.out)
  have HV1 : Hid (w1.heap[w.heap.size]? = some (.cells #[.int .i64 0, .int .i64 0, .string ByteArray.empty, .slice none 0 0] 65 (0, 0))) := Lib.hid ((b1.block _ (by simp)).trans (heap_alloc_new _ _))
  have hz1 := lt_of_block HV1.out
  have hrb1 := R1.out.lt
  obtain ⟨_, _, q2, _, _⟩ := R1.out.cs
  have g2 := R1.out.fz 2
  have HN0 : Hid (w.heap.size ≠ rb) := Lib.hid (by omega)
  have HA1 : Hid (∀ b o, A = some ⟨b, o, none⟩ → b ≠ w.heap.size) := Lib.hid (fun b o e => by have := HA.out b o e; omega)
  have HA2 : Hid (∀ b o, A = some ⟨b, o, none⟩ → b < w1.heap.size) := Lib.hid (fun b o e => by have := HA.out b o e; omega)
  have K1 : Hid (KeepR rb w w1) := Lib.hid (KeepR.of_below' B1.out)
  have hgw : w.heap.size ≤ w.heap.size := Nat.le_refl _
  generalize hg : w.heap.size = g0 at *
  have HGG := Lib.hid hg
  have hg0r : ¬ g0 = rb := HN0.out
  clear b1 hg hgw
  have HVM : Hid ((w1.setCell ⟨rb, 2, none⟩ (.int .i64 ((i : Int) + 1))).heap[g0]? = some (.cells #[.int .i64 0, .int .i64 0, .string ByteArray.empty, .slice none 0 0] 65 (0, 0))) := Lib.hid ((Below.heap_setCell w1 ⟨rb, 2, none⟩ _ g0 hg0r).trans HV1.out)
  have KM : Hid (KeepR rb w (w1.setCell ⟨rb, 2, none⟩ (.int .i64 ((i : Int) + 1)))) := Lib.hid (K1.out.setCell (p := ⟨rb, 2, none⟩) (by simp) _)
  have RM := Lib.hid (R1.out.seti1 (by omega))
  have HAM : Hid (∀ b o, A = some ⟨b, o, none⟩ → b < (w1.setCell ⟨rb, 2, none⟩ (.int .i64 ((i : Int) + 1))).heap.size) := Lib.hid (fun b o e => by simpa using HA2.out b o e)
  go_wp2_with fail
  obtain ⟨wm, hwm⟩ : ∃ wm, w1.setCell ⟨rb, 2, none⟩ (.int .i64 ((i : Int) + 1)) = wm := ⟨_, rfl⟩
  rw [hwm] at HVM KM RM HAM ⊢
  refine (IH.out W0 _ rb A c n (i + 1) L TB.out (KM.out.base HW.out hr0) hr0 HAM.out RM.out).mono ?_
  intro e w2 hret
  have HR : Hid (GotT wm w2 rb A c n L (rdT L n r (i + 1)) e) := Lib.hid hret
  have K2 : Hid (KeepR rb w w2) := Lib.hid (KM.out.trans' hret.1)
  have hzm := lt_of_block HVM.out
  have hrm := RM.out.lt
  have HV2 : Hid (w2.heap[g0]? = some (.cells #[.int .i64 0, .int .i64 0, .string ByteArray.empty, .slice none 0 0] 65 (0, 0))) := Lib.hid ((hret.1.block g0 hzm hg0r).trans HVM.out)
  have hms := hret.1.size
  have hrb2 : rb < w2.heap.size := by omega
  have SZ : Hid (g0 < wm.heap.size ∧ rb < wm.heap.size ∧ wm.heap.size ≤ w2.heap.size) := Lib.hid ⟨hzm, hrm, hms⟩
  clear hret q2 g2 hwm
  cases hgg : rdT L n r (i + 1) with
  | bad fc fp =>
    rw [hgg] at HR
    obtain ⟨_, q, rfl, r2⟩ := HR.out.bad
    have R2 := Lib.hid r2
    have HG2 : Hid (innT L n (rdT L n r) i = .bad fc fp) := Lib.hid (by rw [HI.out, hgg])
    clear r2
    obtain ⟨v0, v1, v2, v3⟩ := term_cells HV2.out
    have f0 := Lib.frozen_of_heap HV2.out 0
    have f1 := Lib.frozen_of_heap HV2.out 1
    have f2 := Lib.frozen_of_heap HV2.out 2
    have f3 := Lib.frozen_of_heap HV2.out 3
    have hz := lt_of_block HV2.out
    go_wp2_with fail
    obtain ⟨W, hWW⟩ : ∃ W, ((((w2.setCell ⟨g0, 0, none⟩ (.int .i64 0)).setCell ⟨g0, 1, none⟩ (.int .i64 0)).setCell ⟨g0, 2, none⟩ (.string ⟨#[]⟩)).setCell ⟨g0, 3, none⟩ (.slice none 0 0)).alloc (.cells #[.int .i64 0, .int .i64 0, .string ⟨#[]⟩, .slice none 0 0] 65) = W := ⟨_, rfl⟩
    have hWg : W.heap[g0]? = some (.cells #[.int .i64 0, .int .i64 0, .string ⟨#[]⟩, .slice none 0 0] 65 (0, 0)) := by
      rw [← hWW]
      exact (heap_alloc_lt (by have := lt_of_block HV2.out; simp; omega)).trans (term_set HV2.out _ _ _ _)
    have RW : RdAt W rb A c n q L fc fp := by
      rw [← hWW]
      exact ((R2.out).set4 HN0.out HA1.out _ _ _ _).below (Below.alloc (Below.refl _ _) (Nat.le_refl _) _)
    have KW : KeepR rb w W := by
      rw [← hWW]
      exact (set_keep4 (K2.out) (by rw [HGG.out]; exact Nat.le_refl _) _ _ _ _).alloc _
    obtain ⟨y0, y1, y2, y3⟩ := term_cells hWg
    rw [hWW]
    clear hWg hWW
    refine bodyPost_ret (v := .tuple #[.agg #[.int .i64 0, .int .i64 0, .string ⟨#[]⟩, .slice none 0 0], .bool false]) (by simp [results, Tryd.results74, go_sem, y0, y1, y2, y3]) rfl ?_
    rw [HG2.out]
    exact ⟨KW, q, rfl, RW⟩
  | ok t q =>
    rw [hgg] at HR
    obtain ⟨_, tk, tm, ts, tA, tl, tc, rfl, tof, r2⟩ := HR.out.ok
    have R2 := Lib.hid r2
    have T2 : Hid (TmO w2 (Made wm w2) [.int .i64 tk, .int .i64 tm, .string ts, .slice tA tl tc] t) := Lib.hid tof
    clear r2 tof
    go_wp2_with fail
    refine (rd_take ⟨#[41]⟩ _ rb A c n q L 0 (R2.out.below (Below.alloc (Below.refl _ _) (Nat.le_refl _) (.cells #[.int .i64 tk, .int .i64 tm, .string ts, .slice tA tl tc] 65))) (by decide)).mono ?_
    rintro e w4 ⟨k34, hret⟩
    have K34 : Hid (KeepR rb (w2.alloc (.cells #[.int .i64 tk, .int .i64 tm, .string ts, .slice tA tl tc] 65)) w4) := Lib.hid k34
    have K4 : Hid (KeepR rb w w4) := Lib.hid (KeepR.trans' (K2.out.alloc _) k34)
    have hz2 := lt_of_block HV2.out
    have HV4 : Hid (w4.heap[g0]? = some (.cells #[.int .i64 0, .int .i64 0, .string ByteArray.empty, .slice none 0 0] 65 (0, 0))) := Lib.hid ((k34.block g0 (by simp; omega) hg0r).trans ((heap_alloc_lt hz2).trans HV2.out))
    have HB4 : Hid (w4.heap[w2.heap.size]? = some (.cells #[.int .i64 tk, .int .i64 tm, .string ts, .slice tA tl tc] 65 (0, 0))) := Lib.hid ((k34.block _ (by simp) (by omega)).trans (heap_alloc_new _ _))
    clear k34
    rcases hret with ⟨htk, rfl, r4⟩ | ⟨htk, rfl, r4⟩
    · have R4 := Lib.hid r4
      have HG2 : Hid (innT L n (rdT L n r) i = .ok (.mk 8 0 ⟨#[]⟩ [t]) (q + 1)) := Lib.hid (by rw [HI.out, hgg]; exact closeT_yes htk)
      obtain ⟨x0, x1, x2, x3⟩ := term_cells HB4.out
      have hzb := lt_of_block HB4.out
      obtain ⟨v0, v1, v2, v3⟩ := term_cells HV4.out
      have f0 := Lib.frozen_of_heap HV4.out 0
      have f1 := Lib.frozen_of_heap HV4.out 1
      have f2 := Lib.frozen_of_heap HV4.out 2
      have f3 := Lib.frozen_of_heap HV4.out 3
      have hz := lt_of_block HV4.out
      clear r4 htk hgg
      go_wp2_with fail
      obtain ⟨W, hWW⟩ : ∃ W, ((((w4.setCell ⟨g0, 0, none⟩ (.int .i64 8)).setCell ⟨g0, 1, none⟩ (.int .i64 0)).setCell ⟨g0, 2, none⟩ (.string ⟨#[]⟩)).setCell ⟨g0, 3, none⟩ (.slice (some ⟨w4.heap.size, 0, none⟩) 1 1)).alloc (.cells #[.int .i64 tk, .int .i64 tm, .string ts, .slice tA tl tc] 65) = W := ⟨_, rfl⟩
      have hWg : W.heap[g0]? = some (.cells #[.int .i64 8, .int .i64 0, .string ⟨#[]⟩, .slice (some ⟨w4.heap.size, 0, none⟩) 1 1] 65 (0, 0)) := by
        rw [← hWW]
        exact (heap_alloc_lt (by have := lt_of_block HV4.out; simp; omega)).trans (term_set HV4.out _ _ _ _)
      have RW : RdAt W rb A c n (q + 1) L 0 0 := by
        rw [← hWW]
        exact ((R4.out).set4 HN0.out HA1.out _ _ _ _).below (Below.alloc (Below.refl _ _) (Nat.le_refl _) _)
      have KW : KeepR rb w W := by
        rw [← hWW]
        exact (set_keep4 (K4.out) (by rw [HGG.out]; exact Nat.le_refl _) _ _ _ _).alloc _
      have TW : TmO W (Made w W) [.int .i64 8, .int .i64 0, .string ⟨#[]⟩, .slice (some ⟨w4.heap.size, 0, none⟩) 1 1] (.mk 8 0 ⟨#[]⟩ [t]) := by
        have hws : W.heap.size = w4.heap.size + 1 := by rw [← hWW]; simp
        have hwr : W.heap[w4.heap.size]? = some (.cells #[.int .i64 tk, .int .i64 tm, .string ts, .slice tA tl tc] 65 (0, 0)) := by
          rw [← hWW]
          have := heap_alloc_new ((((w4.setCell ⟨g0, 0, none⟩ (.int .i64 8)).setCell ⟨g0, 1, none⟩ (.int .i64 0)).setCell ⟨g0, 2, none⟩ (.string ⟨#[]⟩)).setCell ⟨g0, 3, none⟩ (.slice (some ⟨w4.heap.size, 0, none⟩) 1 1)) (.cells #[.int .i64 tk, .int .i64 tm, .string ts, .slice tA tl tc] 65)
          simpa using this
        have hlt := SZ.out
        have k4s := K34.out.size
        simp at k4s
        have tw : TmO W (Made wm w2) [.int .i64 tk, .int .i64 tm, .string ts, .slice tA tl tc] t := T2.out.keep fun b hb => by
          have h1 := hb.1
          have h2 := hb.2
          rw [← hWW]
          refine (heap_alloc_lt (by simp; omega)).trans ?_
          refine (set4_block (by omega)).trans ?_
          exact (K34.out.block b (by simp; omega) (by omega)).trans (heap_alloc_lt h2)
        refine TmO.mk' (kids := [t]) (by unfold i64in; omega) (by unfold i64in; omega) (Nat.zero_le _) (Nat.le_refl _) (by simp [maxLen]) (TmRowO.one tw hwr ⟨by rw [HGG.out]; omega, by omega⟩ (fun b hb => ⟨by have := hb.1; rw [HGG.out]; omega, by have := hb.2; omega⟩) (fun hb => by have := hb.2; omega))
      obtain ⟨y0, y1, y2, y3⟩ := term_cells hWg
      rw [hWW]
      clear hWg hWW
      refine bodyPost_ret (v := .tuple #[.agg #[.int .i64 8, .int .i64 0, .string ⟨#[]⟩, .slice (some ⟨w4.heap.size, 0, none⟩) 1 1], .bool true]) (by simp [results, Tryd.results74, go_sem, y0, y1, y2, y3]) rfl ?_
      rw [HG2.out]
      exact ⟨KW, 8, 0, ⟨#[]⟩, _, 1, 1, rfl, TW, RW⟩
    · have R4 := Lib.hid r4
      have HG2 : Hid (innT L n (rdT L n r) i = .bad 3 (posAt L n q)) := Lib.hid (by rw [HI.out, hgg]; exact closeT_no htk)
      obtain ⟨v0, v1, v2, v3⟩ := term_cells HV4.out
      have f0 := Lib.frozen_of_heap HV4.out 0
      have f1 := Lib.frozen_of_heap HV4.out 1
      have f2 := Lib.frozen_of_heap HV4.out 2
      have f3 := Lib.frozen_of_heap HV4.out 3
      have hz := lt_of_block HV4.out
      clear r4 htk hgg
      go_wp2_with fail
      obtain ⟨W, hWW⟩ : ∃ W, ((((w4.setCell ⟨g0, 0, none⟩ (.int .i64 0)).setCell ⟨g0, 1, none⟩ (.int .i64 0)).setCell ⟨g0, 2, none⟩ (.string ⟨#[]⟩)).setCell ⟨g0, 3, none⟩ (.slice none 0 0)) = W := ⟨_, rfl⟩
      have hWg : W.heap[g0]? = some (.cells #[.int .i64 0, .int .i64 0, .string ⟨#[]⟩, .slice none 0 0] 65 (0, 0)) := by
        rw [← hWW]
        exact term_set HV4.out _ _ _ _
      have RW : RdAt W rb A c n q L 3 (posAt L n q) := by
        rw [← hWW]
        exact (R4.out).set4 HN0.out HA1.out _ _ _ _
      have KW : KeepR rb w W := by
        rw [← hWW]
        exact set_keep4 (K4.out) (by rw [HGG.out]; exact Nat.le_refl _) _ _ _ _
      obtain ⟨y0, y1, y2, y3⟩ := term_cells hWg
      rw [hWW]
      clear hWg hWW
      refine bodyPost_ret (v := .tuple #[.agg #[.int .i64 0, .int .i64 0, .string ⟨#[]⟩, .slice none 0 0], .bool false]) (by simp [results, Tryd.results74, go_sem, y0, y1, y2, y3]) rfl ?_
      rw [HG2.out]
      exact ⟨KW, q, rfl, RW⟩
set_option maxHeartbeats 6400000 in
set_option maxRecDepth 100000 in
theorem rd_inner_two (r : Nat) (hr : r ≤ 6) (ih : TrC r) (W0 w : World) (rb : Nat) (A : Option Addr) (c n i : Nat) (L : List Sg) (hT : TabW W0) (hW : Below W0.heap.size W0 w) (hr0 : W0.heap.size ≤ rb) (hA : ∀ b o, A = some ⟨b, o, none⟩ → b < w.heap.size) (h : RdAt w rb A c n i L 0 0) (hp : ¬ tx L i = ⟨#[110, 111, 116]⟩) :
    Calls Tryd.prog 74 #[.pointer (some ⟨rb, 0, none⟩), .int .i64 (6 - (r : Int))] w fun e w' => GotT w w' rb A c n L (innT L n (rdT L n r) i) e := by
  have RA := Lib.hid h
  have HA := Lib.hid hA
  have TB := Lib.hid hT
  have HW := Lib.hid hW
  have IH := Lib.hid ih
  have hL := h.hL
  have hiL := h.hi
  have hrb := h.lt
  have hfd := sg_field
  have HI := Lib.hid (innT_two (n := n) (rd := rdT L n r) hp)
  have hss4 := txt_lit (l := [110, 111, 116]) hp
  clear h hA hT hW hp ih
  obtain ⟨T, hTX⟩ : ∃ T, tx L i = T := ⟨_, rfl⟩
  have HTX := Lib.hid hTX
  rw [hTX] at hss4
  clear hTX
  go_enter Tryd.func74, Tryd.ntmps74
  go_wp2_with fail
  refine (rd_next _ rb A c n i L 0 0 (RA.out.below (Below.alloc (Below.refl w.heap.size w) (Nat.le_refl _) (.cells #[.int .i64 0, .int .i64 0, .string ByteArray.empty, .slice none 0 0] 65)))).mono ?_
  rintro e w1 ⟨rfl, b1⟩
  rw [HTX.out]
  have B1 : Hid (Below w.heap.size w w1) := Lib.hid (Below.trans (Below.alloc (Below.refl _ _) (Nat.le_refl _) _) (b1.mono (by simp)))
  have R1 := Lib.hid (RA.out.below B1.out)
  have HV1 : Hid (w1.heap[w.heap.size]? = some (.cells #[.int .i64 0, .int .i64 0, .string ByteArray.empty, .slice none 0 0] 65 (0, 0))) := Lib.hid ((b1.block _ (by simp)).trans (heap_alloc_new _ _))
  have hz1 := lt_of_block HV1.out
  have hrb1 := R1.out.lt
  obtain ⟨_, _, q2, _, _⟩ := R1.out.cs
  have g2 := R1.out.fz 2
  have HN0 : Hid (w.heap.size ≠ rb) := Lib.hid (by omega)
  have HA1 : Hid (∀ b o, A = some ⟨b, o, none⟩ → b ≠ w.heap.size) := Lib.hid (fun b o e => by have := HA.out b o e; omega)
  have HA2 : Hid (∀ b o, A = some ⟨b, o, none⟩ → b < w1.heap.size) := Lib.hid (fun b o e => by have := HA.out b o e; omega)
  have K1 : Hid (KeepR rb w w1) := Lib.hid (KeepR.of_below' B1.out)
  have hgw : w.heap.size ≤ w.heap.size := Nat.le_refl _
  generalize hg : w.heap.size = g0 at *
  have HGG := Lib.hid hg
  have hg0r : ¬ g0 = rb := HN0.out
  clear b1 hg hgw
  clear q2 g2
  go_wp2_with fail
  refine (IH.out W0 _ rb A c n i L TB.out (K1.out.base HW.out hr0) hr0 HA2.out R1.out).mono ?_
  intro e w2 hret
  have HR : Hid (GotT w1 w2 rb A c n L (rdT L n r i) e) := Lib.hid hret
  have K2 : Hid (KeepR rb w w2) := Lib.hid (K1.out.trans' hret.1)
  have HV2 : Hid (w2.heap[g0]? = some (.cells #[.int .i64 0, .int .i64 0, .string ByteArray.empty, .slice none 0 0] 65 (0, 0))) := Lib.hid ((hret.1.block g0 hz1 hg0r).trans HV1.out)
  have hms := hret.1.size
  have hrb2 : rb < w2.heap.size := by omega
  clear hret
  cases hgg : rdT L n r i with
  | bad fc fp =>
    rw [hgg] at HR
    obtain ⟨_, q, rfl, r2⟩ := HR.out.bad
    have R2 := Lib.hid r2
    have HG2 : Hid (innT L n (rdT L n r) i = .bad fc fp) := Lib.hid (by rw [HI.out, hgg])
    clear r2
    obtain ⟨v0, v1, v2, v3⟩ := term_cells HV2.out
    have f0 := Lib.frozen_of_heap HV2.out 0
    have f1 := Lib.frozen_of_heap HV2.out 1
    have f2 := Lib.frozen_of_heap HV2.out 2
    have f3 := Lib.frozen_of_heap HV2.out 3
    have hz := lt_of_block HV2.out
    go_wp2_with fail
    obtain ⟨W, hWW⟩ : ∃ W, ((((w2.setCell ⟨g0, 0, none⟩ (.int .i64 0)).setCell ⟨g0, 1, none⟩ (.int .i64 0)).setCell ⟨g0, 2, none⟩ (.string ⟨#[]⟩)).setCell ⟨g0, 3, none⟩ (.slice none 0 0)).alloc (.cells #[.int .i64 0, .int .i64 0, .string ⟨#[]⟩, .slice none 0 0] 65) = W := ⟨_, rfl⟩
    have hWg : W.heap[g0]? = some (.cells #[.int .i64 0, .int .i64 0, .string ⟨#[]⟩, .slice none 0 0] 65 (0, 0)) := by
      rw [← hWW]
      exact (heap_alloc_lt (by have := lt_of_block HV2.out; simp; omega)).trans (term_set HV2.out _ _ _ _)
    have RW : RdAt W rb A c n q L fc fp := by
      rw [← hWW]
      exact ((R2.out).set4 HN0.out HA1.out _ _ _ _).below (Below.alloc (Below.refl _ _) (Nat.le_refl _) _)
    have KW : KeepR rb w W := by
      rw [← hWW]
      exact (set_keep4 (K2.out) (by rw [HGG.out]; exact Nat.le_refl _) _ _ _ _).alloc _
    obtain ⟨y0, y1, y2, y3⟩ := term_cells hWg
    rw [hWW]
    clear hWg hWW
    refine bodyPost_ret (v := .tuple #[.agg #[.int .i64 0, .int .i64 0, .string ⟨#[]⟩, .slice none 0 0], .bool false]) (by simp [results, Tryd.results74, go_sem, y0, y1, y2, y3]) rfl ?_
    rw [HG2.out]
    exact ⟨KW, q, rfl, RW⟩
  | ok ta q =>
    rw [hgg] at HR
    obtain ⟨_, ak, am, as', aA, al, ac, rfl, tof, r2⟩ := HR.out.ok
    have R2 := Lib.hid r2
    have TA : Hid (TmO w2 (Made w1 w2) [.int .i64 ak, .int .i64 am, .string as', .slice aA al ac] ta) := Lib.hid tof
    have HI2 : Hid (innT L n (rdT L n r) i = if kindOf (tx L q) = 0 then .bad 3 (posAt L n q) else match rdT L n r (q + 1) with | .bad c p => .bad c p | .ok b q2 => closeT L n (.mk (kindOf (tx L q)) 0 ⟨#[]⟩ [ta, b]) q2) := Lib.hid (by rw [HI.out, hgg])
    have hz2 := lt_of_block HV2.out
    have hqL := (rdT_lt _ _ _ _ _ _ hgg).2
    clear r2 tof hgg
    go_wp2_with fail
    refine (rd_next _ rb A c n q L 0 0 (R2.out.below (Below.alloc (Below.refl _ _) (Nat.le_refl _) (.cells #[.int .i64 ak, .int .i64 am, .string as', .slice aA al ac] 65)))).mono ?_
    rintro e w4 ⟨rfl, b4⟩
    have R4 := Lib.hid ((R2.out.below (Below.alloc (Below.refl _ _) (Nat.le_refl _) (.cells #[.int .i64 ak, .int .i64 am, .string as', .slice aA al ac] 65))).below b4)
    have K4 : Hid (KeepR rb w w4) := Lib.hid (KeepR.trans' (K2.out.alloc _) (KeepR.of_below' b4))
    have KA4 : Hid (KeepR rb w2 w4) := Lib.hid (KeepR.trans' ((Keep.refl _ _).alloc _) (KeepR.of_below' b4))
    have HV4 : Hid (w4.heap[g0]? = some (.cells #[.int .i64 0, .int .i64 0, .string ByteArray.empty, .slice none 0 0] 65 (0, 0))) := Lib.hid ((b4.block g0 (by simp; omega)).trans ((heap_alloc_lt hz2).trans HV2.out))
    have HB4 : Hid (w4.heap[w2.heap.size]? = some (.cells #[.int .i64 ak, .int .i64 am, .string as', .slice aA al ac] 65 (0, 0))) := Lib.hid ((b4.block _ (by simp)).trans (heap_alloc_new _ _))
    have h24 : w2.heap.size < w4.heap.size := by have := b4.size; simp at this; omega
    clear b4
    obtain ⟨TQ, hTQ⟩ : ∃ TQ, tx L q = TQ := ⟨_, rfl⟩
    have HTQ := Lib.hid hTQ
    rw [hTQ] at HI2 ⊢
    clear hTQ
    go_wp2_with fail
    refine (impl_signKind TQ _).mono ?_
    rintro e w4' ⟨rfl, rfl⟩
    obtain ⟨KD, hKD⟩ : ∃ KD, kindOf TQ = KD := ⟨_, rfl⟩
    have HKD := Lib.hid hKD
    have hcs := kindOf_cases TQ
    rw [hKD] at HI2 hcs ⊢
    have HKI : Hid (i64in KD) := Lib.hid (by unfold i64in; omega)
    clear hKD
    by_cases hk0 : KD = 0
    · have HG2 : Hid (innT L n (rdT L n r) i = .bad 3 (posAt L n q)) := Lib.hid (by rw [HI2.out, if_pos hk0])
      have hkb : (KD == 0) = true := beq_iff_eq.2 hk0
      clear hk0 hcs
      go_wp2_with fail
      refine (rd_fail 3 _ rb A c n q L 0 R4.out).mono ?_
      rintro e w5 ⟨rfl, r5, k5⟩
      have R5 := Lib.hid r5
      have K5 : Hid (KeepR rb w w5) := Lib.hid (K4.out.trans' k5)
      have HV5 : Hid (w5.heap[g0]? = some (.cells #[.int .i64 0, .int .i64 0, .string ByteArray.empty, .slice none 0 0] 65 (0, 0))) := Lib.hid ((k5.block g0 (by omega) hg0r).trans HV4.out)
      clear r5 k5
      obtain ⟨v0, v1, v2, v3⟩ := term_cells HV5.out
      have f0 := Lib.frozen_of_heap HV5.out 0
      have f1 := Lib.frozen_of_heap HV5.out 1
      have f2 := Lib.frozen_of_heap HV5.out 2
      have f3 := Lib.frozen_of_heap HV5.out 3
      have hz := lt_of_block HV5.out
      go_wp2_with fail
      obtain ⟨W, hWW⟩ : ∃ W, ((((w5.setCell ⟨g0, 0, none⟩ (.int .i64 0)).setCell ⟨g0, 1, none⟩ (.int .i64 0)).setCell ⟨g0, 2, none⟩ (.string ⟨#[]⟩)).setCell ⟨g0, 3, none⟩ (.slice none 0 0)) = W := ⟨_, rfl⟩
      have hWg : W.heap[g0]? = some (.cells #[.int .i64 0, .int .i64 0, .string ⟨#[]⟩, .slice none 0 0] 65 (0, 0)) := by
        rw [← hWW]
        exact term_set HV5.out _ _ _ _
      have RW : RdAt W rb A c n q L 3 (posAt L n q) := by
        rw [← hWW]
        exact (R5.out).set4 HN0.out HA1.out _ _ _ _
      have KW : KeepR rb w W := by
        rw [← hWW]
        exact set_keep4 (K5.out) (by rw [HGG.out]; exact Nat.le_refl _) _ _ _ _
      obtain ⟨y0, y1, y2, y3⟩ := term_cells hWg
      rw [hWW]
      clear hWg hWW
      refine bodyPost_ret (v := .tuple #[.agg #[.int .i64 0, .int .i64 0, .string ⟨#[]⟩, .slice none 0 0], .bool false]) (by simp [results, Tryd.results74, go_sem, y0, y1, y2, y3]) rfl ?_
      rw [HG2.out]
      exact ⟨KW, q, rfl, RW⟩
    have HI3 : Hid (innT L n (rdT L n r) i = match rdT L n r (q + 1) with | .bad c p => .bad c p | .ok b q2 => closeT L n (.mk KD 0 ⟨#[]⟩ [ta, b]) q2) := Lib.hid (by rw [HI2.out, if_neg hk0])
    have hkb : (KD == 0) = false := beq_eq_false_iff_ne.2 hk0
    have hlq : q < L.length := there_kind (by rw [HTQ.out, HKD.out]; exact hk0)
    clear hk0 hcs HI2
    obtain ⟨_, _, q2, _, _⟩ := R4.out.cs
    have g2 := R4.out.fz 2
    have hrb4 := R4.out.lt
    have HVM : Hid ((w4.setCell ⟨rb, 2, none⟩ (.int .i64 ((q : Int) + 1))).heap[g0]? = some (.cells #[.int .i64 0, .int .i64 0, .string ByteArray.empty, .slice none 0 0] 65 (0, 0))) := Lib.hid ((Below.heap_setCell w4 ⟨rb, 2, none⟩ _ g0 hg0r).trans HV4.out)
    have HBM : Hid ((w4.setCell ⟨rb, 2, none⟩ (.int .i64 ((q : Int) + 1))).heap[w2.heap.size]? = some (.cells #[.int .i64 ak, .int .i64 am, .string as', .slice aA al ac] 65 (0, 0))) := Lib.hid ((Below.heap_setCell w4 ⟨rb, 2, none⟩ _ _ (by show w2.heap.size ≠ rb; omega)).trans HB4.out)
    have KM : Hid (KeepR rb w (w4.setCell ⟨rb, 2, none⟩ (.int .i64 ((q : Int) + 1)))) := Lib.hid (K4.out.setCell (p := ⟨rb, 2, none⟩) (by simp) _)
    have KAM : Hid (KeepR rb w2 (w4.setCell ⟨rb, 2, none⟩ (.int .i64 ((q : Int) + 1)))) := Lib.hid (KA4.out.setCell (p := ⟨rb, 2, none⟩) (by simp) _)
    have RM := Lib.hid (R4.out.seti1 (by omega))
    have HAM : Hid (∀ b o, A = some ⟨b, o, none⟩ → b < (w4.setCell ⟨rb, 2, none⟩ (.int .i64 ((q : Int) + 1))).heap.size) := Lib.hid (fun b o e => by have := HA2.out b o e; simp; omega)
    have hsz5 : (w4.setCell ⟨rb, 2, none⟩ (.int .i64 ((q : Int) + 1))).heap.size = w4.heap.size := by simp
    go_wp2_with fail
    obtain ⟨w5, hw5⟩ : ∃ wm, w4.setCell ⟨rb, 2, none⟩ (.int .i64 ((q : Int) + 1)) = wm := ⟨_, rfl⟩
    rw [hw5] at HVM HBM KM KAM RM HAM hsz5 ⊢
    refine (IH.out W0 _ rb A c n (q + 1) L TB.out (KM.out.base HW.out hr0) hr0 HAM.out RM.out).mono ?_
    intro e w6 hret
    have HR : Hid (GotT w5 w6 rb A c n L (rdT L n r (q + 1)) e) := Lib.hid hret
    have K6 : Hid (KeepR rb w w6) := Lib.hid (KM.out.trans' hret.1)
    have KA6 : Hid (KeepR rb w2 w6) := Lib.hid (KAM.out.trans' hret.1)
    have hz5 := lt_of_block HVM.out
    have HV6 : Hid (w6.heap[g0]? = some (.cells #[.int .i64 0, .int .i64 0, .string ByteArray.empty, .slice none 0 0] 65 (0, 0))) := Lib.hid ((hret.1.block g0 hz5 hg0r).trans HVM.out)
    have HB6 : Hid (w6.heap[w2.heap.size]? = some (.cells #[.int .i64 ak, .int .i64 am, .string as', .slice aA al ac] 65 (0, 0))) := Lib.hid ((hret.1.block _ (by omega) (by show w2.heap.size ≠ rb; omega)).trans HBM.out)
    have h56 := hret.1.size
    have hrb6 : rb < w6.heap.size := by omega
    clear hret q2 g2 hw5
    cases hgg : rdT L n r (q + 1) with
    | bad fc fp =>
      rw [hgg] at HR
      obtain ⟨_, q', rfl, r6⟩ := HR.out.bad
      have R6 := Lib.hid r6
      have HG2 : Hid (innT L n (rdT L n r) i = .bad fc fp) := Lib.hid (by rw [HI3.out, hgg])
      clear r6
      obtain ⟨v0, v1, v2, v3⟩ := term_cells HV6.out
      have f0 := Lib.frozen_of_heap HV6.out 0
      have f1 := Lib.frozen_of_heap HV6.out 1
      have f2 := Lib.frozen_of_heap HV6.out 2
      have f3 := Lib.frozen_of_heap HV6.out 3
      have hz := lt_of_block HV6.out
      go_wp2_with fail
      obtain ⟨W, hWW⟩ : ∃ W, ((((w6.setCell ⟨g0, 0, none⟩ (.int .i64 0)).setCell ⟨g0, 1, none⟩ (.int .i64 0)).setCell ⟨g0, 2, none⟩ (.string ⟨#[]⟩)).setCell ⟨g0, 3, none⟩ (.slice none 0 0)).alloc (.cells #[.int .i64 0, .int .i64 0, .string ⟨#[]⟩, .slice none 0 0] 65) = W := ⟨_, rfl⟩
      have hWg : W.heap[g0]? = some (.cells #[.int .i64 0, .int .i64 0, .string ⟨#[]⟩, .slice none 0 0] 65 (0, 0)) := by
        rw [← hWW]
        exact (heap_alloc_lt (by have := lt_of_block HV6.out; simp; omega)).trans (term_set HV6.out _ _ _ _)
      have RW : RdAt W rb A c n q' L fc fp := by
        rw [← hWW]
        exact ((R6.out).set4 HN0.out HA1.out _ _ _ _).below (Below.alloc (Below.refl _ _) (Nat.le_refl _) _)
      have KW : KeepR rb w W := by
        rw [← hWW]
        exact (set_keep4 (K6.out) (by rw [HGG.out]; exact Nat.le_refl _) _ _ _ _).alloc _
      obtain ⟨y0, y1, y2, y3⟩ := term_cells hWg
      rw [hWW]
      clear hWg hWW
      refine bodyPost_ret (v := .tuple #[.agg #[.int .i64 0, .int .i64 0, .string ⟨#[]⟩, .slice none 0 0], .bool false]) (by simp [results, Tryd.results74, go_sem, y0, y1, y2, y3]) rfl ?_
      rw [HG2.out]
      exact ⟨KW, q', rfl, RW⟩
    | ok tb q' =>
      rw [hgg] at HR
      obtain ⟨_, bk, bm, bs, bA, bl, bc, rfl, tof, r6⟩ := HR.out.ok
      have R6 := Lib.hid r6
      have TBB : Hid (TmO w6 (Made w5 w6) [.int .i64 bk, .int .i64 bm, .string bs, .slice bA bl bc] tb) := Lib.hid tof
      have HI4 : Hid (innT L n (rdT L n r) i = closeT L n (.mk KD 0 ⟨#[]⟩ [ta, tb]) q') := Lib.hid (by rw [HI3.out, hgg])
      have hz6 := lt_of_block HV6.out
      clear r6 tof hgg
      go_wp2_with fail
      refine (rd_take ⟨#[41]⟩ _ rb A c n q' L 0 (R6.out.below (Below.alloc (Below.refl _ _) (Nat.le_refl _) (.cells #[.int .i64 bk, .int .i64 bm, .string bs, .slice bA bl bc] 65))) (by decide)).mono ?_
      rintro e w8 ⟨k8, hret⟩
      have K8 : Hid (KeepR rb w w8) := Lib.hid (KeepR.trans' (K6.out.alloc _) k8)
      have KA8 : Hid (KeepR rb w2 w8) := Lib.hid (KeepR.trans' (KA6.out.alloc _) k8)
      have KB8 : Hid (KeepR rb w6 w8) := Lib.hid (KeepR.trans' ((Keep.refl _ _).alloc _) k8)
      have HV8 : Hid (w8.heap[g0]? = some (.cells #[.int .i64 0, .int .i64 0, .string ByteArray.empty, .slice none 0 0] 65 (0, 0))) := Lib.hid ((k8.block g0 (by simp; omega) hg0r).trans ((heap_alloc_lt hz6).trans HV6.out))
      have HB8 : Hid (w8.heap[w2.heap.size]? = some (.cells #[.int .i64 ak, .int .i64 am, .string as', .slice aA al ac] 65 (0, 0))) := Lib.hid ((k8.block _ (by simp; omega) (by show w2.heap.size ≠ rb; omega)).trans ((heap_alloc_lt (by omega)).trans HB6.out))
      have HC8 : Hid (w8.heap[w6.heap.size]? = some (.cells #[.int .i64 bk, .int .i64 bm, .string bs, .slice bA bl bc] 65 (0, 0))) := Lib.hid ((k8.block _ (by simp) (by show w6.heap.size ≠ rb; omega)).trans (heap_alloc_new _ _))
      have h68 : w6.heap.size < w8.heap.size := by have := k8.size; simp at this; omega
      have SZ : Hid (g0 < w1.heap.size ∧ rb < w1.heap.size ∧ w1.heap.size ≤ w2.heap.size ∧ w2.heap.size < w4.heap.size ∧ w5.heap.size = w4.heap.size ∧ w5.heap.size ≤ w6.heap.size ∧ w6.heap.size < w8.heap.size) := Lib.hid ⟨hz1, hrb1, hms, h24, hsz5, h56, h68⟩
      clear k8
      rcases hret with ⟨htk, rfl, r8⟩ | ⟨htk, rfl, r8⟩
      · have R8 := Lib.hid r8
        have HG2 : Hid (innT L n (rdT L n r) i = .ok (.mk KD 0 ⟨#[]⟩ [ta, tb]) (q' + 1)) := Lib.hid (by rw [HI4.out]; exact closeT_yes htk)
        obtain ⟨x0, x1, x2, x3⟩ := term_cells HB8.out
        obtain ⟨z0, z1, z2, z3⟩ := term_cells HC8.out
        have hzb := lt_of_block HB8.out
        have hzc := lt_of_block HC8.out
        obtain ⟨v0, v1, v2, v3⟩ := term_cells HV8.out
        have f0 := Lib.frozen_of_heap HV8.out 0
        have f1 := Lib.frozen_of_heap HV8.out 1
        have f2 := Lib.frozen_of_heap HV8.out 2
        have f3 := Lib.frozen_of_heap HV8.out 3
        have hz := lt_of_block HV8.out
        clear r8 htk
        go_wp2_with fail
        obtain ⟨W, hWW⟩ : ∃ W, ((((w8.setCell ⟨g0, 0, none⟩ (.int .i64 KD)).setCell ⟨g0, 1, none⟩ (.int .i64 0)).setCell ⟨g0, 2, none⟩ (.string ⟨#[]⟩)).setCell ⟨g0, 3, none⟩ (.slice (some ⟨w8.heap.size, 0, none⟩) 2 2)).alloc (.cells #[.int .i64 ak, .int .i64 am, .string as', .slice aA al ac, .int .i64 bk, .int .i64 bm, .string bs, .slice bA bl bc] 65) = W := ⟨_, rfl⟩
        have hWg : W.heap[g0]? = some (.cells #[.int .i64 KD, .int .i64 0, .string ⟨#[]⟩, .slice (some ⟨w8.heap.size, 0, none⟩) 2 2] 65 (0, 0)) := by
          rw [← hWW]
          exact (heap_alloc_lt (by have := lt_of_block HV8.out; simp; omega)).trans (term_set HV8.out _ _ _ _)
        have RW : RdAt W rb A c n (q' + 1) L 0 0 := by
          rw [← hWW]
          exact ((R8.out).set4 HN0.out HA1.out _ _ _ _).below (Below.alloc (Below.refl _ _) (Nat.le_refl _) _)
        have KW : KeepR rb w W := by
          rw [← hWW]
          exact (set_keep4 (K8.out) (by rw [HGG.out]; exact Nat.le_refl _) _ _ _ _).alloc _
        have TW : TmO W (Made w W) [.int .i64 KD, .int .i64 0, .string ⟨#[]⟩, .slice (some ⟨w8.heap.size, 0, none⟩) 2 2] (.mk KD 0 ⟨#[]⟩ [ta, tb]) := by
          have hws : W.heap.size = w8.heap.size + 1 := by rw [← hWW]; simp
          have hwr : W.heap[w8.heap.size]? = some (.cells #[.int .i64 ak, .int .i64 am, .string as', .slice aA al ac, .int .i64 bk, .int .i64 bm, .string bs, .slice bA bl bc] 65 (0, 0)) := by
            rw [← hWW]
            have := heap_alloc_new ((((w8.setCell ⟨g0, 0, none⟩ (.int .i64 KD)).setCell ⟨g0, 1, none⟩ (.int .i64 0)).setCell ⟨g0, 2, none⟩ (.string ⟨#[]⟩)).setCell ⟨g0, 3, none⟩ (.slice (some ⟨w8.heap.size, 0, none⟩) 2 2)) (.cells #[.int .i64 ak, .int .i64 am, .string as', .slice aA al ac, .int .i64 bk, .int .i64 bm, .string bs, .slice bA bl bc] 65)
            simpa using this
          obtain ⟨h01, h02, h03, h04, h05, h06, h07⟩ := SZ.out
          have twa : TmO W (Made w1 w2) [.int .i64 ak, .int .i64 am, .string as', .slice aA al ac] ta := TA.out.keep fun b hb => by
            have h1 := hb.1
            have h2 := hb.2
            rw [← hWW]
            refine (heap_alloc_lt (by simp; omega)).trans ?_
            refine (set4_block (by omega)).trans ?_
            exact KA8.out.block b h2 (by omega)
          have twb : TmO W (Made w5 w6) [.int .i64 bk, .int .i64 bm, .string bs, .slice bA bl bc] tb := TBB.out.keep fun b hb => by
            have h1 := hb.1
            have h2 := hb.2
            rw [← hWW]
            refine (heap_alloc_lt (by simp; omega)).trans ?_
            refine (set4_block (by omega)).trans ?_
            exact KB8.out.block b h2 (by omega)
          refine TmO.mk' (kids := [ta, tb]) HKI.out (by unfold i64in; omega) (Nat.zero_le _) (Nat.le_refl _) (by simp [maxLen]) (TmRowO.two twa twb hwr ⟨by rw [HGG.out]; omega, by omega⟩ (fun b hb => ⟨by have := hb.1; rw [HGG.out]; omega, by have := hb.2; omega⟩) (fun b hb => ⟨by have := hb.1; rw [HGG.out]; omega, by have := hb.2; omega⟩) (fun hb => by have := hb.2; omega) (fun hb => by have := hb.2; omega) (fun b h1 h2 => by have := h1.2; have := h2.1; omega))
        obtain ⟨y0, y1, y2, y3⟩ := term_cells hWg
        rw [hWW]
        clear hWg hWW
        refine bodyPost_ret (v := .tuple #[.agg #[.int .i64 KD, .int .i64 0, .string ⟨#[]⟩, .slice (some ⟨w8.heap.size, 0, none⟩) 2 2], .bool true]) (by simp [results, Tryd.results74, go_sem, y0, y1, y2, y3]) rfl ?_
        rw [HG2.out]
        exact ⟨KW, KD, 0, ⟨#[]⟩, _, 2, 2, rfl, TW, RW⟩
      · have R8 := Lib.hid r8
        have HG2 : Hid (innT L n (rdT L n r) i = .bad 3 (posAt L n q')) := Lib.hid (by rw [HI4.out]; exact closeT_no htk)
        obtain ⟨v0, v1, v2, v3⟩ := term_cells HV8.out
        have f0 := Lib.frozen_of_heap HV8.out 0
        have f1 := Lib.frozen_of_heap HV8.out 1
        have f2 := Lib.frozen_of_heap HV8.out 2
        have f3 := Lib.frozen_of_heap HV8.out 3
        have hz := lt_of_block HV8.out
        clear r8 htk
        go_wp2_with fail
        obtain ⟨W, hWW⟩ : ∃ W, ((((w8.setCell ⟨g0, 0, none⟩ (.int .i64 0)).setCell ⟨g0, 1, none⟩ (.int .i64 0)).setCell ⟨g0, 2, none⟩ (.string ⟨#[]⟩)).setCell ⟨g0, 3, none⟩ (.slice none 0 0)) = W := ⟨_, rfl⟩
        have hWg : W.heap[g0]? = some (.cells #[.int .i64 0, .int .i64 0, .string ⟨#[]⟩, .slice none 0 0] 65 (0, 0)) := by
          rw [← hWW]
          exact term_set HV8.out _ _ _ _
        have RW : RdAt W rb A c n q' L 3 (posAt L n q') := by
          rw [← hWW]
          exact (R8.out).set4 HN0.out HA1.out _ _ _ _
        have KW : KeepR rb w W := by
          rw [← hWW]
          exact set_keep4 (K8.out) (by rw [HGG.out]; exact Nat.le_refl _) _ _ _ _
        obtain ⟨y0, y1, y2, y3⟩ := term_cells hWg
        rw [hWW]
        clear hWg hWW
        refine bodyPost_ret (v := .tuple #[.agg #[.int .i64 0, .int .i64 0, .string ⟨#[]⟩, .slice none 0 0], .bool false]) (by simp [results, Tryd.results74, go_sem, y0, y1, y2, y3]) rfl ?_
        rw [HG2.out]
        exact ⟨KW, q', rfl, RW⟩
theorem rd_term_of (r : Nat) (hr : r ≤ 6) (ih : ∀ k, r = k + 1 → InC k) : TrC r := by
  intro W0 w rb A c n i L hT hW hr0 hA h
  by_cases hk : (sgAt L i).k = 2
  · exact rd_term_num _ _ W0 w rb A c n i L hT hW hr0 hA h hk (by cases r <;> rw [rdT] <;> exact leafT_num hk)
  cases hn : nmB L i with
  | true => exact rd_term_var _ _ W0 w rb A c n i L hT hW hr0 hA h hk hn (by cases r <;> rw [rdT] <;> exact leafT_var hk hn)
  | false =>
    by_cases hp : tx L i = ⟨#[40]⟩
    · cases r with
      | zero => exact rd_term_deep _ _ W0 w rb A c n i L hT hW hr0 hA h hk hn hp (by decide) (by rw [rdT]; exact leafT_in hk hn hp)
      | succ r => exact rd_term_in r (by omega) (ih r rfl) _ W0 w rb A c n i L hT hW hr0 hA h hk hn hp (by rw [rdT]; exact leafT_in hk hn hp)
    · exact rd_term_bad _ _ W0 w rb A c n i L hT hW hr0 hA h hk hn hp (by cases r <;> rw [rdT] <;> exact leafT_bad hk hn hp)
theorem rd_inner_of (r : Nat) (hr : r ≤ 6) (ih : TrC r) : InC r := by
  intro W0 w rb A c n i L hT hW hr0 hA h
  by_cases hp : tx L i = ⟨#[110, 111, 116]⟩
  · exact rd_inner_not r hr ih W0 w rb A c n i L hT hW hr0 hA h hp
  · exact rd_inner_two r hr ih W0 w rb A c n i L hT hW hr0 hA h hp
/-- the program's reader of terms -/
theorem rd_term_all (r : Nat) : r ≤ 6 → TrC r := by
  induction r with
  | zero => intro h; exact rd_term_of 0 h (fun k e => by omega)
  | succ r ih => intro h; exact rd_term_of (r + 1) h (fun k e => by have : k = r := by omega
                                                                    subst this
                                                                    exact rd_inner_of k (by omega) (ih (by omega)))
end Go.Proofs.YtdanlgmpgdipnaaDoor
