/- Several texts in one: RsTerm. -/
import Derived.Test.YtdanlgmpgdipnaaDoorKd20
import Derived.Deep.RegionLaw
namespace Go.Proofs.YtdanlgmpgdipnaaDoor
open Go.RowKit
set_option linter.unusedVariables false


/-- what reading a term leaves in the reference -/
def GsT (w w' : World) (rb : Nat) (A : Option Addr) (c n : Nat) (L : List Sg) (lf : Int) (g : Got Tm) (e : Ending) : Prop :=
  KeepR rb w w' ∧ ∃ k m s A' l c', e = .returned (.agg #[.int .i64 k, .int .i64 m, .string s, .slice A' l c']) ∧ match g with
    | .ok t q => TmO w' (Made w w') [.int .i64 k, .int .i64 m, .string s, .slice A' l c'] t ∧ RsAt w' rb A c n q L 0 0 lf
    | .bad fc fp => ¬ fc = 0 ∧ ∃ q, RsAt w' rb A c n q L fc fp lf
theorem RsAt.setg {w : World} {rb : Nat} {A : Option Addr} {c n i : Nat} {L : List Sg} {fc : Int} {fp : Nat} {lf : Int} (h : RsAt w rb A c n i L fc fp lf) {g : Nat} (hg : g ≠ rb) (hA : ∀ b o, A = some ⟨b, o, none⟩ → b ≠ g) (o : Nat) (v : Value) : RsAt (w.setCell ⟨g, o, none⟩ v) rb A c n i L fc fp lf :=
  ⟨(Below.heap_setCell w ⟨g, o, none⟩ v rb (fun e => hg e.symm)).trans h.cells, rd_set h.rd hA, h.off, h.hi, h.hL, h.hc⟩
theorem RsAt.set4 {w : World} {rb : Nat} {A : Option Addr} {c n i : Nat} {L : List Sg} {fc : Int} {fp : Nat} {lf : Int} (h : RsAt w rb A c n i L fc fp lf) {g : Nat} (hg : g ≠ rb) (hA : ∀ b o, A = some ⟨b, o, none⟩ → b ≠ g) (x y z u : Value) :
    RsAt ((((w.setCell ⟨g, 0, none⟩ x).setCell ⟨g, 1, none⟩ y).setCell ⟨g, 2, none⟩ z).setCell ⟨g, 3, none⟩ u) rb A c n i L fc fp lf :=
  (((h.setg hg hA _ _).setg hg hA _ _).setg hg hA _ _).setg hg hA _ _
set_option maxHeartbeats 1600000 in
set_option maxRecDepth 100000 in
theorem rs_term_fault (room : Int) (w : World) (rb : Nat) (A : Option Addr) (c n i : Nat) (L : List Sg) (fc : Int) (fp : Nat) (lf : Int) (hA : ∀ b o, A = some ⟨b, o, none⟩ → b < w.heap.size) (h : RsAt w rb A c n i L fc fp lf) (hf : ¬ fc = 0) :
    Calls Tryd.prog 46 #[.pointer (some ⟨rb, 0, none⟩), .int .i64 room] w fun e w' => e = .returned (.agg #[.int .i64 0, .int .i64 0, .string ⟨#[]⟩, .slice none 0 0]) ∧ Below w.heap.size w w' := by
  have RA := Lib.hid h
  have hrb := h.lt
  have hfb : (fc != 0) = true := by rw [bne_iff_ne]; exact hf
  have hfb2 : (fc == 0) = false := beq_eq_false_iff_ne.2 hf
  obtain ⟨_, _, _, p3, _, _⟩ := h.cs
  clear h hf hA
  go_enter Tryd.func46, Tryd.ntmps46
  go_wp2_with fail
  have hWg : ((w.alloc (.cells #[.int .i64 0, .int .i64 0, .string ⟨#[]⟩, .slice none 0 0] 65)).alloc (.cells #[.int .i64 0, .int .i64 0, .string ⟨#[]⟩, .slice none 0 0] 65)).heap[w.heap.size]? = some (.cells #[.int .i64 0, .int .i64 0, .string ⟨#[]⟩, .slice none 0 0] 65 (0, 0)) := (heap_alloc_lt (by simp)).trans (heap_alloc_new _ _)
  obtain ⟨y0, y1, y2, y3⟩ := term_cells hWg
  refine bodyPost_ret (v := .agg #[.int .i64 0, .int .i64 0, .string ⟨#[]⟩, .slice none 0 0]) (by simp [results, Tryd.results46, go_sem, y0, y1, y2, y3]) rfl ?_
  exact ⟨rfl, (by repeat' (first | exact Below.refl _ _ | exact Nat.le_refl _ | (refine Below.alloc ?_ ?_ _) | (refine Below.setCell ?_ ?_ _) | (refine Below.drew ?_) | (refine below_drewN ?_ _) | assumption | (simp; done) | (simp; omega)))⟩
set_option maxHeartbeats 1600000 in
set_option maxRecDepth 100000 in
theorem rs_term_var (room : Int) (g : Got Tm) (w : World) (rb : Nat) (A : Option Addr) (c n i : Nat) (L : List Sg) (lf : Int) (hs : SgsOk L) (hA : ∀ b o, A = some ⟨b, o, none⟩ → b < w.heap.size) (h : RsAt w rb A c n i L 0 0 lf) (hn : nmB L i = true) (hg : g = .ok (.mk 2 0 (tx L i) []) (i + 1)) :
    Calls Tryd.prog 46 #[.pointer (some ⟨rb, 0, none⟩), .int .i64 room] w fun e w' => GsT w w' rb A c n L lf g e := by
  subst hg
  have RA := Lib.hid h
  have HA := Lib.hid hA
  have HS := Lib.hid hs
  have hL := h.hL
  have hcc := h.hc
  have hiL := h.hi
  have hrb := h.lt
  obtain ⟨_, _, _, p3, _, _⟩ := h.cs
  have HNM := Lib.hid hn
  have HSZ : Hid ((tx L i).size ≤ maxLen) := Lib.hid (by have := name_len hn; rw [size_list] at this; unfold maxLen; omega)
  clear h hA hs hn
  go_enter Tryd.func46, Tryd.ntmps46
  go_wp2_with fail
  have BA : Below w.heap.size w ((w.alloc (.cells #[.int .i64 0, .int .i64 0, .string ByteArray.empty, .slice none 0 0] 65)).alloc (.cells #[.int .i64 0, .int .i64 0, .string ⟨#[]⟩, .slice none 0 0] 65)) := (by repeat' (first | exact Below.refl _ _ | exact Nat.le_refl _ | (refine Below.alloc ?_ ?_ _) | (refine Below.setCell ?_ ?_ _) | (refine Below.drew ?_) | (refine below_drewN ?_ _) | assumption | (simp; done) | (simp; omega)))
  refine (rs_named _ rb A c n i L 0 0 lf (RA.out.below BA) HS.out).mono ?_
  rintro e w1 ⟨rfl, b1⟩
  rw [show (decide ((0 : Int) = 0) && nmB L i) = true from by rw [HNM.out]; rfl]
  have B1 : Hid (Below w.heap.size w w1) := Lib.hid (BA.trans (b1.mono BA.size))
  have R1 := Lib.hid (RA.out.below B1.out)
  have HG0 : Hid (w1.heap[w.heap.size]? = some (.cells #[.int .i64 0, .int .i64 0, .string ByteArray.empty, .slice none 0 0] 65 (0, 0))) := Lib.hid ((b1.block _ (by simp; omega)).trans ((heap_alloc_lt (by simp)).trans (heap_alloc_new _ _)))
  have HTB : Hid (w1.heap[w.heap.size + 1]? = some (.cells #[.int .i64 0, .int .i64 0, .string ⟨#[]⟩, .slice none 0 0] 65 (0, 0))) := Lib.hid ((b1.block _ (by simp)).trans (by have := heap_alloc_new (w.alloc (.cells #[.int .i64 0, .int .i64 0, .string ByteArray.empty, .slice none 0 0] 65)) (.cells #[.int .i64 0, .int .i64 0, .string ⟨#[]⟩, .slice none 0 0] 65); simpa using this))
  have K1 : Hid (KeepR rb w w1) := Lib.hid (KeepR.of_below' B1.out)
  have hz1 := lt_of_block HTB.out
  have hrb1 := R1.out.lt
  obtain ⟨g0, hg0⟩ : ∃ g, w.heap.size = g := ⟨_, rfl⟩
  obtain ⟨tb, htb⟩ : ∃ g, w.heap.size + 1 = g := ⟨_, rfl⟩
  have HN0 : Hid (g0 ≠ rb) := Lib.hid (by omega)
  have HN1 : Hid (tb ≠ rb) := Lib.hid (by omega)
  have HA1 : Hid (∀ b o, A = some ⟨b, o, none⟩ → b ≠ g0) := Lib.hid (fun b o e => by have := HA.out b o e; omega)
  have HGG := Lib.hid hg0
  have hg0r : ¬ g0 = rb := HN0.out
  have hg0t : g0 < tb := by omega
  have htb1 : g0 + 1 = tb := by omega
  rw [hg0] at HG0 ⊢
  rw [htb] at HTB hz1
  rw [htb1]
  have hz0 := lt_of_block HG0.out
  clear b1 BA hg0 htb htb1 p3
  go_wp2_with fail
  refine (rs_name _ rb A c n i L 0 lf R1.out HS.out).mono ?_
  rintro e w2 ⟨k2, hret⟩
  have K2 := Lib.hid (K1.out.trans' k2)
  have HG2 : Hid (w2.heap[g0]? = some (.cells #[.int .i64 0, .int .i64 0, .string ByteArray.empty, .slice none 0 0] 65 (0, 0))) := Lib.hid ((k2.block g0 hz0 hg0r).trans HG0.out)
  clear k2
  rcases hret with ⟨_, rfl, r2⟩ | ⟨hno, _, _⟩
  · have R2 := Lib.hid r2
    obtain ⟨T, hT⟩ : ∃ T, tx L i = T := ⟨_, rfl⟩
    have HT := Lib.hid hT
    rw [hT] at HSZ ⊢
    clear r2 hT
    obtain ⟨v0, v1, v2, v3⟩ := term_cells HG2.out
    have f0 := Lib.frozen_of_heap HG2.out 0
    have f1 := Lib.frozen_of_heap HG2.out 1
    have f2 := Lib.frozen_of_heap HG2.out 2
    have f3 := Lib.frozen_of_heap HG2.out 3
    have hz := lt_of_block HG2.out
    go_wp2_with fail
    obtain ⟨W, hWW⟩ : ∃ W, ((((w2.setCell ⟨g0, 0, none⟩ (.int .i64 2)).setCell ⟨g0, 1, none⟩ (.int .i64 0)).setCell ⟨g0, 2, none⟩ (.string T)).setCell ⟨g0, 3, none⟩ (.slice none 0 0)) = W := ⟨_, rfl⟩
    have hWg : W.heap[g0]? = some (.cells #[.int .i64 2, .int .i64 0, .string T, .slice none 0 0] 65 (0, 0)) := by
      rw [← hWW]
      exact term_set HG2.out _ _ _ _
    have RW : RsAt W rb A c n (i + 1) L 0 0 lf := by
      rw [← hWW]
      exact (R2.out).set4 HN0.out HA1.out _ _ _ _
    have KW : KeepR rb w W := by
      rw [← hWW]
      exact set_keep4 (K2.out) (by rw [HGG.out]; exact Nat.le_refl _) _ _ _ _
    obtain ⟨y0, y1, y2, y3⟩ := term_cells hWg
    rw [hWW]
    clear hWg hWW
    refine bodyPost_ret (v := .agg #[.int .i64 2, .int .i64 0, .string T, .slice none 0 0]) (by simp [results, Tryd.results46, go_sem, y0, y1, y2, y3]) rfl ?_
    rw [HT.out]
    exact ⟨KW, 2, 0, T, none, 0, 0, rfl, TmO.leaf (by unfold i64in; omega) (by unfold i64in; omega) HSZ.out, RW⟩
  · rw [HNM.out] at hno; cases hno
set_option maxHeartbeats 3200000 in
set_option maxRecDepth 100000 in
theorem rs_term_num (room : Int) (g : Got Tm) (w : World) (rb : Nat) (A : Option Addr) (c n i : Nat) (L : List Sg) (lf : Int) (hs : SgsOk L) (hA : ∀ b o, A = some ⟨b, o, none⟩ → b < w.heap.size) (h : RsAt w rb A c n i L 0 0 lf) (hk : (sgAt L i).k = 2) (hg : g = .ok (.mk 1 (readD (tx L i)).1 ⟨#[]⟩ []) (i + 1)) :
    Calls Tryd.prog 46 #[.pointer (some ⟨rb, 0, none⟩), .int .i64 room] w fun e w' => GsT w w' rb A c n L lf g e := by
  subst hg
  have RA := Lib.hid h
  have HA := Lib.hid hA
  have HS := Lib.hid hs
  have hL := h.hL
  have hcc := h.hc
  have hiL := h.hi
  have hrb := h.lt
  obtain ⟨_, _, _, p3, _, _⟩ := h.cs
  have hlt := there_k hk
  have HNM : Hid (nmB L i = false) := Lib.hid (by
    cases hn : nmB L i with
    | false => rfl
    | true => rw [hs.at hn] at hk; simp at hk)
  have HBD := Lib.hid (readD_bd (tx L i))
  have HKK : Hid (L[i].k = 2) := Lib.hid (by rw [← sgAt_lt hlt]; exact hk)
  have HTX := Lib.hid (tx_lt hlt)
  clear h hA hs hk
  go_enter Tryd.func46, Tryd.ntmps46
  go_wp2_with fail
  have BA : Below w.heap.size w ((w.alloc (.cells #[.int .i64 0, .int .i64 0, .string ByteArray.empty, .slice none 0 0] 65)).alloc (.cells #[.int .i64 0, .int .i64 0, .string ⟨#[]⟩, .slice none 0 0] 65)) := (by repeat' (first | exact Below.refl _ _ | exact Nat.le_refl _ | (refine Below.alloc ?_ ?_ _) | (refine Below.setCell ?_ ?_ _) | (refine Below.drew ?_) | (refine below_drewN ?_ _) | assumption | (simp; done) | (simp; omega)))
  refine (rs_named _ rb A c n i L 0 0 lf (RA.out.below BA) HS.out).mono ?_
  rintro e w1 ⟨rfl, b1⟩
  rw [show (decide ((0 : Int) = 0) && nmB L i) = false from by rw [HNM.out]; rfl]
  have B1 : Hid (Below w.heap.size w w1) := Lib.hid (BA.trans (b1.mono BA.size))
  have R1 := Lib.hid (RA.out.below B1.out)
  have HG0 : Hid (w1.heap[w.heap.size]? = some (.cells #[.int .i64 0, .int .i64 0, .string ByteArray.empty, .slice none 0 0] 65 (0, 0))) := Lib.hid ((b1.block _ (by simp; omega)).trans ((heap_alloc_lt (by simp)).trans (heap_alloc_new _ _)))
  have HTB : Hid (w1.heap[w.heap.size + 1]? = some (.cells #[.int .i64 0, .int .i64 0, .string ⟨#[]⟩, .slice none 0 0] 65 (0, 0))) := Lib.hid ((b1.block _ (by simp)).trans (by have := heap_alloc_new (w.alloc (.cells #[.int .i64 0, .int .i64 0, .string ByteArray.empty, .slice none 0 0] 65)) (.cells #[.int .i64 0, .int .i64 0, .string ⟨#[]⟩, .slice none 0 0] 65); simpa using this))
  have K1 : Hid (KeepR rb w w1) := Lib.hid (KeepR.of_below' B1.out)
  have hz1 := lt_of_block HTB.out
  have hrb1 := R1.out.lt
  obtain ⟨g0, hg0⟩ : ∃ g, w.heap.size = g := ⟨_, rfl⟩
  obtain ⟨tb, htb⟩ : ∃ g, w.heap.size + 1 = g := ⟨_, rfl⟩
  have HN0 : Hid (g0 ≠ rb) := Lib.hid (by omega)
  have HN1 : Hid (tb ≠ rb) := Lib.hid (by omega)
  have HA1 : Hid (∀ b o, A = some ⟨b, o, none⟩ → b ≠ g0) := Lib.hid (fun b o e => by have := HA.out b o e; omega)
  have HGG := Lib.hid hg0
  have hg0r : ¬ g0 = rb := HN0.out
  have hg0t : g0 < tb := by omega
  have htb1 : g0 + 1 = tb := by omega
  rw [hg0] at HG0 ⊢
  rw [htb] at HTB hz1
  rw [htb1]
  have hz0 := lt_of_block HG0.out
  clear b1 BA hg0 htb htb1 p3
  obtain ⟨b, off, rfl, e0, e1, e2⟩ := rd_sg R1.out.rd hlt
  obtain ⟨x, hx⟩ : ∃ x, L[i] = x := ⟨_, rfl⟩
  have HX := Lib.hid hx
  rw [hx] at e0 e1
  obtain ⟨xk, xt, xp⟩ := x
  simp only at e0 e1
  have E0 := Lib.hid e0
  have E1 := Lib.hid e1
  have h0i : (0 : Int) ≤ (i : Int) := by omega
  have hdi : (i : Int) < (L.length : Int) := by omega
  clear hx e0 e1 e2
  have hxk : (xk == 2) = true := by have := HKK.out; rw [HX.out] at this; exact beq_iff_eq.2 this
  have HTT : Hid (tx L i = xt) := Lib.hid (by rw [HTX.out, HX.out])
  rw [HTT.out] at HBD
  go_upto_region 6 with fail
  refine wp_region_later (by kernel_rfl) (by kernel_rfl) ?_
  intro gw hgw hcw
  have HG := Lib.hid hgw
  have HC := Lib.hid hcw
  clear hgw hcw
  have P := Lib.hid (fun m => (R1.out.below (HG.out m)).cs)
  have p0 : ∀ m, (gw m).cell? ⟨rb, 0, none⟩ = some (.slice (some ⟨b, off, none⟩) L.length c) := fun m => (P.out m).1
  have p1 : ∀ m, (gw m).cell? ⟨rb, 1, none⟩ = some (.int .i64 (i : Int)) := fun m => (P.out m).2.1
  have s0 : ∀ m, (gw m).cell? ⟨b, off + i * 3, none⟩ = some (.int .i64 xk) := fun m => cell_keep (HG.out m) E0.out
  have s1 : ∀ m, (gw m).cell? ⟨b, off + i * 3 + 1, none⟩ = some (.string xt) := fun m => cell_keep (HG.out m) E1.out
  repeat (go_big_quiet_step (fail))
  refine wpQuiet_nil ?_
  intro _ hw'
  obtain ⟨nq, hw''⟩ := hw'
  subst hw''
  rename Later _ => mm
  have R2 := Lib.hid (R1.out.below (HG.out mm))
  have K2 := Lib.hid (K1.out.trans' (KeepR.of_below' (HG.out mm)))
  have G2 : Hid ((gw mm).heap[g0]? = some (.cells #[.int .i64 0, .int .i64 0, .string ByteArray.empty, .slice none 0 0] 65 (0, 0))) := Lib.hid (((HG.out mm).block g0 (lt_of_block HG0.out)).trans HG0.out)
  have T2 : Hid ((gw mm).heap[tb]? = some (.cells #[.int .i64 0, .int .i64 0, .string ⟨#[]⟩, .slice none 0 0] 65 (0, 0))) := Lib.hid (((HG.out mm).block tb (lt_of_block HTB.out)).trans HTB.out)
  have E20 : Hid ((gw mm).cell? ⟨b, off + i * 3, none⟩ = some (.int .i64 xk)) := Lib.hid (cell_keep (HG.out mm) E0.out)
  have E21 : Hid ((gw mm).cell? ⟨b, off + i * 3 + 1, none⟩ = some (.string xt)) := Lib.hid (cell_keep (HG.out mm) E1.out)
  clear p0 p1 s0 s1 P
  generalize gw mm = w2 at *
  go_upto_region 7 with fail
  refine wp_region_later (by kernel_rfl) (by kernel_rfl) ?_
  intro gw hgw hcw
  have HG := Lib.hid hgw
  have HC := Lib.hid hcw
  clear hgw hcw
  have P := Lib.hid (fun m => (R2.out.below (HG.out m)).cs)
  have p0 : ∀ m, (gw m).cell? ⟨rb, 0, none⟩ = some (.slice (some ⟨b, off, none⟩) L.length c) := fun m => (P.out m).1
  have p1 : ∀ m, (gw m).cell? ⟨rb, 1, none⟩ = some (.int .i64 (i : Int)) := fun m => (P.out m).2.1
  have s0 : ∀ m, (gw m).cell? ⟨b, off + i * 3, none⟩ = some (.int .i64 xk) := fun m => cell_keep (HG.out m) E20.out
  have s1 : ∀ m, (gw m).cell? ⟨b, off + i * 3 + 1, none⟩ = some (.string xt) := fun m => cell_keep (HG.out m) E21.out
  have QD := Lib.hid (fun m => spec_ReadDecimal xt (gw m))
  repeat (go_big_quiet_step ((first | (go_at_call 43; with_reducible exact later_of HC (QD.out _)))))
  refine wpQuiet_nil ?_
  intro _ hw'
  obtain ⟨nq, hw''⟩ := hw'
  subst hw''
  rename Later _ => mm
  have R3 := Lib.hid (R2.out.below (HG.out mm))
  have K3 := Lib.hid (K2.out.trans' (KeepR.of_below' (HG.out mm)))
  have G3 : Hid ((gw mm).heap[g0]? = some (.cells #[.int .i64 0, .int .i64 0, .string ByteArray.empty, .slice none 0 0] 65 (0, 0))) := Lib.hid (((HG.out mm).block g0 (lt_of_block G2.out)).trans G2.out)
  have T3 : Hid ((gw mm).heap[tb]? = some (.cells #[.int .i64 0, .int .i64 0, .string ⟨#[]⟩, .slice none 0 0] 65 (0, 0))) := Lib.hid (((HG.out mm).block tb (lt_of_block T2.out)).trans T2.out)
  have E30 : Hid ((gw mm).cell? ⟨b, off + i * 3, none⟩ = some (.int .i64 xk)) := Lib.hid (cell_keep (HG.out mm) E20.out)
  have E31 : Hid ((gw mm).cell? ⟨b, off + i * 3 + 1, none⟩ = some (.string xt)) := Lib.hid (cell_keep (HG.out mm) E21.out)
  clear p0 p1 s0 s1 P
  generalize gw mm = w3 at *
  obtain ⟨N, hN⟩ : ∃ N, (readD xt).1 = N := ⟨_, rfl⟩
  rw [hN] at HBD ⊢
  have HNN := Lib.hid hN
  obtain ⟨_, q1, _⟩ := R3.out.cs
  have g1 := R3.out.fz 1
  have hrb3 := R3.out.lt
  have HGS : Hid ((w3.setCell ⟨rb, 1, none⟩ (.int .i64 ((i : Int) + 1))).heap[g0]? = some (.cells #[.int .i64 0, .int .i64 0, .string ByteArray.empty, .slice none 0 0] 65 (0, 0))) := Lib.hid ((Below.heap_setCell w3 ⟨rb, 1, none⟩ _ g0 hg0r).trans G3.out)
  clear hN
  obtain ⟨v0, v1, v2, v3⟩ := term_cells G3.out
  have f0 := Lib.frozen_of_heap G3.out 0
  have f1 := Lib.frozen_of_heap G3.out 1
  have f2 := Lib.frozen_of_heap G3.out 2
  have f3 := Lib.frozen_of_heap G3.out 3
  have hz := lt_of_block G3.out
  go_wp2_with fail
  obtain ⟨W, hWW⟩ : ∃ W, (((((w3.setCell ⟨rb, 1, none⟩ (.int .i64 ((i : Int) + 1))).setCell ⟨g0, 0, none⟩ (.int .i64 1)).setCell ⟨g0, 1, none⟩ (.int .i64 N)).setCell ⟨g0, 2, none⟩ (.string ⟨#[]⟩)).setCell ⟨g0, 3, none⟩ (.slice none 0 0)) = W := ⟨_, rfl⟩
  have hWg : W.heap[g0]? = some (.cells #[.int .i64 1, .int .i64 N, .string ⟨#[]⟩, .slice none 0 0] 65 (0, 0)) := by
    rw [← hWW]
    exact term_set HGS.out _ _ _ _
  have RW : RsAt W rb (some ⟨b, off, none⟩) c n (i + 1) L 0 0 lf := by
    rw [← hWW]
    exact (R3.out.seti (by omega)).set4 HN0.out HA1.out _ _ _ _
  have KW : KeepR rb w W := by
    rw [← hWW]
    exact set_keep4 (K3.out.setCell (p := ⟨rb, 1, none⟩) (by simp) _) (by rw [HGG.out]; exact Nat.le_refl _) _ _ _ _
  obtain ⟨y0, y1, y2, y3⟩ := term_cells hWg
  rw [hWW]
  clear hWg hWW
  refine bodyPost_ret (v := .agg #[.int .i64 1, .int .i64 N, .string ⟨#[]⟩, .slice none 0 0]) (by simp [results, Tryd.results46, go_sem, y0, y1, y2, y3]) rfl ?_
  rw [HTT.out, HNN.out]
  exact ⟨KW, 1, N, ⟨#[]⟩, none, 0, 0, rfl, TmO.leaf (k := 1) (m := N) (s := ⟨#[]⟩) (by unfold i64in; omega) HBD.out (Nat.zero_le _), RW⟩
theorem set_keep1 {rb g : Nat} {w w1 : World} (h : KeepR rb w w1) (hg : w.heap.size ≤ g) (o : Nat) (v : Value) : KeepR rb w (w1.setCell ⟨g, o, none⟩ v) :=
  ⟨h.os, h.tape, h.output, by simpa using h.size, fun b hb hS => (Below.heap_setCell w1 ⟨g, o, none⟩ v b (fun e => by have : b = g := e; omega)).trans (h.block b hb hS)⟩
theorem signB_ne {k : Int} (hk : k = 3 ∨ k = 4 ∨ k = 5 ∨ k = 6 ∨ k = 7 ∨ k = 9) : signB k ≠ ⟨#[]⟩ := by
  rcases hk with rfl | rfl | rfl | rfl | rfl | rfl <;> decide
/-- at a step of a region that draws: one more term behind a row of terms -/
theorem step_kid {w0 w : World} {v : Value} {n : Nat} {xs : List Value} {o : Oper} {a : Act} {Q : Exit → Act → World → Prop} {ops : Array Oper} {K : Act → World → Prop} {E : Prop} (hgd : o.guard = none) (sl x : Operand) (ho : o.op = .call { callee := .builtin .append, args := #[sl, x], argTypes := #[63, 63] }) (hs : a.eval sl = v) (own : Own w0 w 65 4 v n xs) (A : Option Addr) (m c : Nat) (news : List Value) (hx : a.eval x = .slice A m c) (rd : Rd w 4 A m news) (h1 : ∀ u ∈ news, u.oneCell' = true) (hb : n + m ≤ 1000000)
    (h : ∀ v' w', Own w0 w' 65 4 v' (n + m) (xs ++ news) → Grew v v' w w' → K (a.put o.dst v') w') : if Region.wanted o (yielded ops a.tmps) = true then Oper.wp Tryd.prog o a w K Q else E := by
  have hw : Region.wanted o (yielded ops a.tmps) = true := by simp [Region.wanted, hgd]
  rw [if_pos hw]
  obtain ⟨v', w', hr, h2, h3⟩ := run_appG (P := Tryd.prog) 63 o.type 65 4 56 tmT v n xs own A m c news rd h1 (by simp only [maxLen]; omega) (by omega)
  unfold Oper.wp execOp
  simp only [ho, resolve, invoke, builtin, Sem.run_bind, Sem.run_pure, Result.andThen_ok, List.map_toArray, List.map_cons, List.map_nil, hs, hx, hr]
  exact h v' w' h2 h3
set_option maxHeartbeats 6400000 in
set_option maxRecDepth 100000 in
theorem rs_term_bad_at (room : Int) (g : Got Tm) (w : World) (rb : Nat) (A : Option Addr) (c n i : Nat) (L : List Sg) (lf : Int) (hs : SgsOk L) (hA : ∀ b o, A = some ⟨b, o, none⟩ → b < w.heap.size) (h : RsAt w rb A c n i L 0 0 lf) (hroom : -1 ≤ room ∧ room ≤ 10) (hlt : i < L.length) (hk : ¬ (sgAt L i).k = 2) (hn : nmB L i = false) (hp : ¬ tx L i = ⟨#[40]⟩) (hg : g = .bad 3 (posAt L n i)) :
    Calls Tryd.prog 46 #[.pointer (some ⟨rb, 0, none⟩), .int .i64 room] w fun e w' => GsT w w' rb A c n L lf g e := by
  subst hg
  have RA := Lib.hid h
  have HA := Lib.hid hA
  have HS := Lib.hid hs
  have hL := h.hL
  have hcc := h.hc
  have hiL := h.hi
  have hrb := h.lt
  obtain ⟨_, _, _, p3, _, _⟩ := h.cs
  have HNM := Lib.hid hn
  have HP := Lib.hid hp
  have HKK : Hid (¬ L[i].k = 2) := Lib.hid (by rw [← sgAt_lt hlt]; exact hk)
  clear h hA hs hk hn hp
  go_enter Tryd.func46, Tryd.ntmps46
  go_wp2_with fail
  have BA : Below w.heap.size w ((w.alloc (.cells #[.int .i64 0, .int .i64 0, .string ByteArray.empty, .slice none 0 0] 65)).alloc (.cells #[.int .i64 0, .int .i64 0, .string ⟨#[]⟩, .slice none 0 0] 65)) := (by repeat' (first | exact Below.refl _ _ | exact Nat.le_refl _ | (refine Below.alloc ?_ ?_ _) | (refine Below.setCell ?_ ?_ _) | (refine Below.drew ?_) | (refine below_drewN ?_ _) | assumption | (simp; done) | (simp; omega)))
  refine (rs_named _ rb A c n i L 0 0 lf (RA.out.below BA) HS.out).mono ?_
  rintro e w1 ⟨rfl, b1⟩
  rw [show (decide ((0 : Int) = 0) && nmB L i) = false from by rw [HNM.out]; rfl]
  have B1 : Hid (Below w.heap.size w w1) := Lib.hid (BA.trans (b1.mono BA.size))
  have R1 := Lib.hid (RA.out.below B1.out)
  have HG0 : Hid (w1.heap[w.heap.size]? = some (.cells #[.int .i64 0, .int .i64 0, .string ByteArray.empty, .slice none 0 0] 65 (0, 0))) := Lib.hid ((b1.block _ (by simp; omega)).trans ((heap_alloc_lt (by simp)).trans (heap_alloc_new _ _)))
  have HTB : Hid (w1.heap[w.heap.size + 1]? = some (.cells #[.int .i64 0, .int .i64 0, .string ⟨#[]⟩, .slice none 0 0] 65 (0, 0))) := Lib.hid ((b1.block _ (by simp)).trans (by have := heap_alloc_new (w.alloc (.cells #[.int .i64 0, .int .i64 0, .string ByteArray.empty, .slice none 0 0] 65)) (.cells #[.int .i64 0, .int .i64 0, .string ⟨#[]⟩, .slice none 0 0] 65); simpa using this))
  have K1 : Hid (KeepR rb w w1) := Lib.hid (KeepR.of_below' B1.out)
  have hz1 := lt_of_block HTB.out
  have hrb1 := R1.out.lt
  obtain ⟨g0, hg0⟩ : ∃ g, w.heap.size = g := ⟨_, rfl⟩
  obtain ⟨tb, htb⟩ : ∃ g, w.heap.size + 1 = g := ⟨_, rfl⟩
  have HN0 : Hid (g0 ≠ rb) := Lib.hid (by omega)
  have HN1 : Hid (tb ≠ rb) := Lib.hid (by omega)
  have HA1 : Hid (∀ b o, A = some ⟨b, o, none⟩ → b ≠ g0) := Lib.hid (fun b o e => by have := HA.out b o e; omega)
  have HGG := Lib.hid hg0
  have hg0r : ¬ g0 = rb := HN0.out
  have hg0t : g0 < tb := by omega
  have htb1 : g0 + 1 = tb := by omega
  rw [hg0] at HG0 ⊢
  rw [htb] at HTB hz1
  rw [htb1]
  have hz0 := lt_of_block HG0.out
  clear b1 BA hg0 htb htb1 p3
  have hAI := HA.out
  obtain ⟨b, off, rfl, e0, e1, e2⟩ := rd_sg R1.out.rd hlt
  obtain ⟨x, hx⟩ : ∃ x, L[i] = x := ⟨_, rfl⟩
  have HX := Lib.hid hx
  rw [hx] at e0 e1
  obtain ⟨xk, xt, xp⟩ := x
  simp only at e0 e1
  have E0 := Lib.hid e0
  have E1 := Lib.hid e1
  have h0i : (0 : Int) ≤ (i : Int) := by omega
  have hdi : (i : Int) < (L.length : Int) := by omega
  clear hx e0 e1 e2
  have hxk : (xk == 2) = false := beq_eq_false_iff_ne.2 (by have := HKK.out; rw [HX.out] at this; exact this)
  go_upto_region 6 with fail
  refine wp_region_later (by kernel_rfl) (by kernel_rfl) ?_
  intro gw hgw hcw
  have HG := Lib.hid hgw
  have HC := Lib.hid hcw
  clear hgw hcw
  have P := Lib.hid (fun m => (R1.out.below (HG.out m)).cs)
  have p0 : ∀ m, (gw m).cell? ⟨rb, 0, none⟩ = some (.slice (some ⟨b, off, none⟩) L.length c) := fun m => (P.out m).1
  have p1 : ∀ m, (gw m).cell? ⟨rb, 1, none⟩ = some (.int .i64 (i : Int)) := fun m => (P.out m).2.1
  have s0 : ∀ m, (gw m).cell? ⟨b, off + i * 3, none⟩ = some (.int .i64 xk) := fun m => cell_keep (HG.out m) E0.out
  have s1 : ∀ m, (gw m).cell? ⟨b, off + i * 3 + 1, none⟩ = some (.string xt) := fun m => cell_keep (HG.out m) E1.out
  repeat (go_big_quiet_step (fail))
  refine wpQuiet_nil ?_
  intro _ hw'
  obtain ⟨nq, hw''⟩ := hw'
  subst hw''
  rename Later _ => mm
  have R2 := Lib.hid (R1.out.below (HG.out mm))
  have K2 := Lib.hid (K1.out.trans' (KeepR.of_below' (HG.out mm)))
  have G2 : Hid ((gw mm).heap[g0]? = some (.cells #[.int .i64 0, .int .i64 0, .string ByteArray.empty, .slice none 0 0] 65 (0, 0))) := Lib.hid (((HG.out mm).block g0 (lt_of_block HG0.out)).trans HG0.out)
  have T2 : Hid ((gw mm).heap[tb]? = some (.cells #[.int .i64 0, .int .i64 0, .string ⟨#[]⟩, .slice none 0 0] 65 (0, 0))) := Lib.hid (((HG.out mm).block tb (lt_of_block HTB.out)).trans HTB.out)
  have E20 : Hid ((gw mm).cell? ⟨b, off + i * 3, none⟩ = some (.int .i64 xk)) := Lib.hid (cell_keep (HG.out mm) E0.out)
  have E21 : Hid ((gw mm).cell? ⟨b, off + i * 3 + 1, none⟩ = some (.string xt)) := Lib.hid (cell_keep (HG.out mm) E1.out)
  clear p0 p1 s0 s1 P
  generalize gw mm = w2 at *
  go_wp2_with fail
  refine (rs_is ⟨#[40]⟩ _ rb _ c n i L 0 0 lf R2.out (by decide)).mono ?_
  rintro e w3 ⟨rfl, b3⟩
  rw [show (decide ((0 : Int) = 0) && decide (tx L i = ⟨#[40]⟩)) = false from by rw [decide_eq_false HP.out]; rfl]
  have R3 := Lib.hid (R2.out.below b3)
  have K3 := Lib.hid (K2.out.trans' (KeepR.of_below' b3))
  have G3 : Hid (w3.heap[g0]? = some (.cells #[.int .i64 0, .int .i64 0, .string ByteArray.empty, .slice none 0 0] 65 (0, 0))) := Lib.hid ((b3.block g0 (lt_of_block G2.out)).trans G2.out)
  have T3 : Hid (w3.heap[tb]? = some (.cells #[.int .i64 0, .int .i64 0, .string ⟨#[]⟩, .slice none 0 0] 65 (0, 0))) := Lib.hid ((b3.block tb (lt_of_block T2.out)).trans T2.out)
  clear b3
  go_wp2_with fail
  refine (rs_take ⟨#[40]⟩ _ rb _ c n i L 0 lf R3.out (by decide)).mono ?_
  rintro e w4 ⟨rfl, k4, hret⟩
  rcases hret with ⟨hy, _⟩ | ⟨_, r4⟩
  · exact absurd hy HP.out
  have R4 := Lib.hid r4
  have K4 := Lib.hid (K3.out.trans' k4)
  have G4 : Hid (w4.heap[g0]? = some (.cells #[.int .i64 0, .int .i64 0, .string ByteArray.empty, .slice none 0 0] 65 (0, 0))) := Lib.hid ((k4.block g0 (lt_of_block G3.out) hg0r).trans G3.out)
  have T4 : Hid (w4.heap[tb]? = some (.cells #[.int .i64 0, .int .i64 0, .string ⟨#[]⟩, .slice none 0 0] 65 (0, 0))) := Lib.hid ((k4.block tb (lt_of_block T3.out) HN1.out).trans T3.out)
  clear r4 k4
  go_wp2_with fail
  refine (rs_is ⟨#[110, 111, 116]⟩ _ rb _ c n i L 3 _ lf R4.out (by decide)).mono ?_
  rintro e w5 ⟨rfl, b5⟩
  rw [show (decide ((3 : Int) = 0) && decide (tx L i = ⟨#[110, 111, 116]⟩)) = false from rfl]
  have R5 := Lib.hid (R4.out.below b5)
  have K5 := Lib.hid (K4.out.trans' (KeepR.of_below' b5))
  have G5 : Hid (w5.heap[g0]? = some (.cells #[.int .i64 0, .int .i64 0, .string ByteArray.empty, .slice none 0 0] 65 (0, 0))) := Lib.hid ((b5.block g0 (lt_of_block G4.out)).trans G4.out)
  have T5 : Hid (w5.heap[tb]? = some (.cells #[.int .i64 0, .int .i64 0, .string ⟨#[]⟩, .slice none 0 0] 65 (0, 0))) := Lib.hid ((b5.block tb (lt_of_block T4.out)).trans T4.out)
  have hz5 := lt_of_block T5.out
  obtain ⟨x0, x1, x2, x3⟩ := term_cells T5.out
  have y3 := Lib.frozen_of_heap T5.out 3
  clear b5
  go_upto_region 20 with fail
  have hwr : IntKind.i64.wrap (room - 1) = room - 1 := IntWalk.i64_in _ (by omega)
  go_region_law (first
    | (go_simp; go_at_call 46; refine (rs_term_fault (room - 1) _ rb _ c n i L 3 (posAt L n i) lf (fun b' o' e => by have := hAI b' o' e; have := K5.out.size; simp; omega) (R5.out.below (by repeat' (first | exact Below.refl _ _ | exact Nat.le_refl _ | (refine Below.alloc ?_ ?_ _) | (refine Below.setCell ?_ ?_ _) | (refine Below.drew ?_) | (refine below_drewN ?_ _) | assumption | (simp; done) | (simp; omega)))) (by decide)).mono ?_; rintro e wY ⟨rfl, bY⟩; have bZ : Below w5.heap.size w5 wY := Below.trans (by repeat' (first | exact Below.refl _ _ | exact Nat.le_refl _ | (refine Below.alloc ?_ ?_ _) | (refine Below.setCell ?_ ?_ _) | (refine Below.drew ?_) | (refine below_drewN ?_ _) | assumption | (simp; done) | (simp; omega))) (bY.mono (by simp)); have TY := Lib.hid ((bZ.block tb hz5).trans T5.out); obtain ⟨z0, z1, z2, z3⟩ := term_cells TY.out; have zf := Lib.frozen_of_heap TY.out 3; have hzY := lt_of_block TY.out; clear bY)
    | (refine step_kid (by rfl) _ _ (by rfl) (by rfl) (Own.start _ _ _) _ 1 1 [.int .i64 0, .int .i64 0, .string ⟨#[]⟩, .slice none 0 0] (by rfl) (by first | exact Rd.new _ 4 1 _ _ rfl | exact (Rd.new _ 4 1 _ _ rfl).drew) (by simp [Value.oneCell']) (by omega) ?_; intro v' wZ own' gr'; have bW : Below wY.heap.size wY wZ := Below.trans (Below.alloc (Below.refl _ _) (Nat.le_refl _) _) (own'.2.mono (by simp)); have TZ := Lib.hid ((bW.block tb hzY).trans TY.out); obtain ⟨t0, t1, t2, t3⟩ := term_cells TZ.out; have tf := Lib.frozen_of_heap TZ.out 3; have hzZ := lt_of_block TZ.out; obtain ⟨vA, vc, rfl, _⟩ := own'.slice; have OWN := Lib.hid own'; have BZ := Lib.hid (bZ.trans (bW.mono bZ.size)); clear own' gr'))
  all_goals
    obtain ⟨wq, hwq⟩ : ∃ wq, wZ.setCell ⟨tb, 3, none⟩ (.slice vA 1 vc) = wq := ⟨_, rfl⟩
    have Rq : Hid (RsAt wq rb (some ⟨b, off, none⟩) c n i L 3 (posAt L n i) lf) := Lib.hid (by rw [← hwq]; exact (R5.out.below BZ.out).setg HN1.out (fun b' o' e => by have := hAI b' o' e; have := HGG.out; omega) _ _)
    have Kq : Hid (KeepR rb w wq) := Lib.hid (by rw [← hwq]; exact set_keep1 (K5.out.trans' (KeepR.of_below' BZ.out)) (by have := HGG.out; omega) _ _)
    have Gq : Hid (wq.heap[g0]? = some (.cells #[.int .i64 0, .int .i64 0, .string ByteArray.empty, .slice none 0 0] 65 (0, 0))) := Lib.hid (by rw [← hwq]; exact (Below.heap_setCell wZ ⟨tb, 3, none⟩ _ g0 (by show g0 ≠ tb; omega)).trans ((BZ.out.block g0 (lt_of_block G5.out)).trans G5.out))
    have Tq : Hid (wq.heap[tb]? = some (.cells #[.int .i64 0, .int .i64 0, .string ⟨#[]⟩, .slice vA 1 vc] 65 (0, 0))) := Lib.hid (by rw [← hwq]; have := TZ.out; simp [World.setCell, Array.getElem?_modify, this])
    rw [hwq]
    clear hwq x0 x1 x2 x3 z0 z1 z2 z3 zf t0 t1 t2 t3 tf y3
    go_wp2_with fail
    go_loopw [8] (fun iv wr => ∃ j : Nat, 3 ≤ j ∧ j ≤ 10 ∧ iv = .int .i64 (j : Int) ∧ Hid (Below wq.heap.size wq wr)) (fun iv _ => 10 - (intOf iv).toNat)
    case atStart => exact ⟨3, Nat.le_refl _, by omega, rfl, Lib.hid (Below.refl _ _)⟩
    case round =>
      obtain ⟨j, hj3, hj, rfl, HB⟩ := hrel
      by_cases hlt' : j < 10
      · have h0 : (j : Int) ≤ 9 := by omega
        by_cases h8 : j = 8
        · subst h8
          go_wp2_with fail
          go_roundw
          case rel => exact ⟨9, by omega, by omega, by go_num, HB⟩
          case measure => simp [intOf]
        have hk : (j : Int) = 3 ∨ (j : Int) = 4 ∨ (j : Int) = 5 ∨ (j : Int) = 6 ∨ (j : Int) = 7 ∨ (j : Int) = 9 := by omega
        have HKJ := Lib.hid hk
        have h8i : ((j : Int) != 8) = true := by rw [bne_iff_ne]; omega
        have h8j : ((j : Int) == 8) = false := beq_eq_false_iff_ne.2 (by omega)
        clear hk
        go_wp2_with fail
        refine (spec_l03Sign (j : Int) HKJ.out _).mono ?_
        rintro e wa ⟨rfl, ba⟩
        have HBa := Lib.hid (below_then HB.out ba)
        clear ba
        go_wp2_with fail
        refine (rs_is (signB (j : Int)) _ rb _ c n i L 3 (posAt L n i) lf (Rq.out.below HBa.out) (signB_ne HKJ.out)).mono ?_
        rintro e wb ⟨rfl, bb⟩
        rw [show (decide ((3 : Int) = 0) && decide (tx L i = signB (j : Int))) = false from rfl]
        have HBb := Lib.hid (below_then HBa.out bb)
        clear bb
        go_wp2_with fail
        go_roundw
        case rel => exact ⟨j + 1, by omega, by omega, by go_num, HBb⟩
        case measure => simp [intOf]; omega
      · have h0 : ¬ (j : Int) ≤ 9 := by omega
        have Tr : Hid (wr.heap[tb]? = some (.cells #[.int .i64 0, .int .i64 0, .string ⟨#[]⟩, .slice vA 1 vc] 65 (0, 0))) := Lib.hid ((HB.out.block tb (lt_of_block Tq.out)).trans Tq.out)
        have Gr : Hid (wr.heap[g0]? = some (.cells #[.int .i64 0, .int .i64 0, .string ByteArray.empty, .slice none 0 0] 65 (0, 0))) := Lib.hid ((HB.out.block g0 (lt_of_block Gq.out)).trans Gq.out)
        have Rr := Lib.hid (Rq.out.below HB.out)
        have Kr := Lib.hid (Kq.out.trans' (KeepR.of_below' HB.out))
        obtain ⟨x0, x1, x2, x3⟩ := term_cells Tr.out
        have hzr := lt_of_block Tr.out
        obtain ⟨v0, v1, v2, v3⟩ := term_cells Gr.out
        have f0 := Lib.frozen_of_heap Gr.out 0
        have f1 := Lib.frozen_of_heap Gr.out 1
        have f2 := Lib.frozen_of_heap Gr.out 2
        have f3 := Lib.frozen_of_heap Gr.out 3
        have hz := lt_of_block Gr.out
        go_wp2_with fail
        refine (rs_bad2 3 _ rb _ c n i L 3 (posAt L n i) lf Rr.out (by decide)).mono ?_
        rintro e wc ⟨rfl, rfl⟩
        go_wp2_with fail
        obtain ⟨W, hWW⟩ : ∃ W, ((((wr.setCell ⟨g0, 0, none⟩ (.int .i64 0)).setCell ⟨g0, 1, none⟩ (.int .i64 0)).setCell ⟨g0, 2, none⟩ (.string ⟨#[]⟩)).setCell ⟨g0, 3, none⟩ (.slice vA 1 vc)) = W := ⟨_, rfl⟩
        have hWg : W.heap[g0]? = some (.cells #[.int .i64 0, .int .i64 0, .string ⟨#[]⟩, .slice vA 1 vc] 65 (0, 0)) := by
          rw [← hWW]
          exact term_set Gr.out _ _ _ _
        have RW : RsAt W rb (some ⟨b, off, none⟩) c n i L 3 (posAt L n i) lf := by
          rw [← hWW]
          exact (Rr.out).set4 HN0.out HA1.out _ _ _ _
        have KW : KeepR rb w W := by
          rw [← hWW]
          exact set_keep4 (Kr.out) (by rw [HGG.out]; exact Nat.le_refl _) _ _ _ _
        obtain ⟨y0, y1, y2, y3⟩ := term_cells hWg
        rw [hWW]
        clear hWg hWW
        refine bodyPost_ret (v := .agg #[.int .i64 0, .int .i64 0, .string ⟨#[]⟩, .slice vA 1 vc]) (by simp [results, Tryd.results46, go_sem, y0, y1, y2, y3]) rfl ?_
        exact ⟨KW, 0, 0, ⟨#[]⟩, vA, 1, vc, rfl, by decide, i, RW⟩--@@
set_option maxHeartbeats 6400000 in
set_option maxRecDepth 100000 in
theorem rs_term_bad_end (room : Int) (g : Got Tm) (w : World) (rb : Nat) (A : Option Addr) (c n i : Nat) (L : List Sg) (lf : Int) (hs : SgsOk L) (hA : ∀ b o, A = some ⟨b, o, none⟩ → b < w.heap.size) (h : RsAt w rb A c n i L 0 0 lf) (hroom : -1 ≤ room ∧ room ≤ 10) (hlt : ¬ i < L.length) (hk : ¬ (sgAt L i).k = 2) (hn : nmB L i = false) (hp : ¬ tx L i = ⟨#[40]⟩) (hg : g = .bad 3 (posAt L n i)) :
    Calls Tryd.prog 46 #[.pointer (some ⟨rb, 0, none⟩), .int .i64 room] w fun e w' => GsT w w' rb A c n L lf g e := by
  subst hg
  have RA := Lib.hid h
  have HA := Lib.hid hA
  have HS := Lib.hid hs
  have hL := h.hL
  have hcc := h.hc
  have hiL := h.hi
  have hrb := h.lt
  obtain ⟨_, _, _, p3, _, _⟩ := h.cs
  have HNM := Lib.hid hn
  have HP := Lib.hid hp
  clear h hA hs hk hn hp
  go_enter Tryd.func46, Tryd.ntmps46
  go_wp2_with fail
  have BA : Below w.heap.size w ((w.alloc (.cells #[.int .i64 0, .int .i64 0, .string ByteArray.empty, .slice none 0 0] 65)).alloc (.cells #[.int .i64 0, .int .i64 0, .string ⟨#[]⟩, .slice none 0 0] 65)) := (by repeat' (first | exact Below.refl _ _ | exact Nat.le_refl _ | (refine Below.alloc ?_ ?_ _) | (refine Below.setCell ?_ ?_ _) | (refine Below.drew ?_) | (refine below_drewN ?_ _) | assumption | (simp; done) | (simp; omega)))
  refine (rs_named _ rb A c n i L 0 0 lf (RA.out.below BA) HS.out).mono ?_
  rintro e w1 ⟨rfl, b1⟩
  rw [show (decide ((0 : Int) = 0) && nmB L i) = false from by rw [HNM.out]; rfl]
  have B1 : Hid (Below w.heap.size w w1) := Lib.hid (BA.trans (b1.mono BA.size))
  have R1 := Lib.hid (RA.out.below B1.out)
  have HG0 : Hid (w1.heap[w.heap.size]? = some (.cells #[.int .i64 0, .int .i64 0, .string ByteArray.empty, .slice none 0 0] 65 (0, 0))) := Lib.hid ((b1.block _ (by simp; omega)).trans ((heap_alloc_lt (by simp)).trans (heap_alloc_new _ _)))
  have HTB : Hid (w1.heap[w.heap.size + 1]? = some (.cells #[.int .i64 0, .int .i64 0, .string ⟨#[]⟩, .slice none 0 0] 65 (0, 0))) := Lib.hid ((b1.block _ (by simp)).trans (by have := heap_alloc_new (w.alloc (.cells #[.int .i64 0, .int .i64 0, .string ByteArray.empty, .slice none 0 0] 65)) (.cells #[.int .i64 0, .int .i64 0, .string ⟨#[]⟩, .slice none 0 0] 65); simpa using this))
  have K1 : Hid (KeepR rb w w1) := Lib.hid (KeepR.of_below' B1.out)
  have hz1 := lt_of_block HTB.out
  have hrb1 := R1.out.lt
  obtain ⟨g0, hg0⟩ : ∃ g, w.heap.size = g := ⟨_, rfl⟩
  obtain ⟨tb, htb⟩ : ∃ g, w.heap.size + 1 = g := ⟨_, rfl⟩
  have HN0 : Hid (g0 ≠ rb) := Lib.hid (by omega)
  have HN1 : Hid (tb ≠ rb) := Lib.hid (by omega)
  have HA1 : Hid (∀ b o, A = some ⟨b, o, none⟩ → b ≠ g0) := Lib.hid (fun b o e => by have := HA.out b o e; omega)
  have HGG := Lib.hid hg0
  have hg0r : ¬ g0 = rb := HN0.out
  have hg0t : g0 < tb := by omega
  have htb1 : g0 + 1 = tb := by omega
  rw [hg0] at HG0 ⊢
  rw [htb] at HTB hz1
  rw [htb1]
  have hz0 := lt_of_block HG0.out
  clear b1 BA hg0 htb htb1 p3
  have hAI := HA.out
  have hdi : ¬ (i : Int) < (L.length : Int) := by omega
  go_upto_region 6 with fail
  refine wp_region_later (by kernel_rfl) (by kernel_rfl) ?_
  intro gw hgw hcw
  have HG := Lib.hid hgw
  have HC := Lib.hid hcw
  clear hgw hcw
  have P := Lib.hid (fun m => (R1.out.below (HG.out m)).cs)
  have p0 : ∀ m, (gw m).cell? ⟨rb, 0, none⟩ = some (.slice A L.length c) := fun m => (P.out m).1
  have p1 : ∀ m, (gw m).cell? ⟨rb, 1, none⟩ = some (.int .i64 (i : Int)) := fun m => (P.out m).2.1
  repeat (go_big_quiet_step (fail))
  refine wpQuiet_nil ?_
  intro _ hw'
  obtain ⟨nq, hw''⟩ := hw'
  subst hw''
  rename Later _ => mm
  have R2 := Lib.hid (R1.out.below (HG.out mm))
  have K2 := Lib.hid (K1.out.trans' (KeepR.of_below' (HG.out mm)))
  have G2 : Hid ((gw mm).heap[g0]? = some (.cells #[.int .i64 0, .int .i64 0, .string ByteArray.empty, .slice none 0 0] 65 (0, 0))) := Lib.hid (((HG.out mm).block g0 (lt_of_block HG0.out)).trans HG0.out)
  have T2 : Hid ((gw mm).heap[tb]? = some (.cells #[.int .i64 0, .int .i64 0, .string ⟨#[]⟩, .slice none 0 0] 65 (0, 0))) := Lib.hid (((HG.out mm).block tb (lt_of_block HTB.out)).trans HTB.out)
  clear p0 p1 P
  generalize gw mm = w2 at *
  go_wp2_with fail
  refine (rs_is ⟨#[40]⟩ _ rb _ c n i L 0 0 lf R2.out (by decide)).mono ?_
  rintro e w3 ⟨rfl, b3⟩
  rw [show (decide ((0 : Int) = 0) && decide (tx L i = ⟨#[40]⟩)) = false from by rw [decide_eq_false HP.out]; rfl]
  have R3 := Lib.hid (R2.out.below b3)
  have K3 := Lib.hid (K2.out.trans' (KeepR.of_below' b3))
  have G3 : Hid (w3.heap[g0]? = some (.cells #[.int .i64 0, .int .i64 0, .string ByteArray.empty, .slice none 0 0] 65 (0, 0))) := Lib.hid ((b3.block g0 (lt_of_block G2.out)).trans G2.out)
  have T3 : Hid (w3.heap[tb]? = some (.cells #[.int .i64 0, .int .i64 0, .string ⟨#[]⟩, .slice none 0 0] 65 (0, 0))) := Lib.hid ((b3.block tb (lt_of_block T2.out)).trans T2.out)
  clear b3
  go_wp2_with fail
  refine (rs_take ⟨#[40]⟩ _ rb _ c n i L 0 lf R3.out (by decide)).mono ?_
  rintro e w4 ⟨rfl, k4, hret⟩
  rcases hret with ⟨hy, _⟩ | ⟨_, r4⟩
  · exact absurd hy HP.out
  have R4 := Lib.hid r4
  have K4 := Lib.hid (K3.out.trans' k4)
  have G4 : Hid (w4.heap[g0]? = some (.cells #[.int .i64 0, .int .i64 0, .string ByteArray.empty, .slice none 0 0] 65 (0, 0))) := Lib.hid ((k4.block g0 (lt_of_block G3.out) hg0r).trans G3.out)
  have T4 : Hid (w4.heap[tb]? = some (.cells #[.int .i64 0, .int .i64 0, .string ⟨#[]⟩, .slice none 0 0] 65 (0, 0))) := Lib.hid ((k4.block tb (lt_of_block T3.out) HN1.out).trans T3.out)
  clear r4 k4
  go_wp2_with fail
  refine (rs_is ⟨#[110, 111, 116]⟩ _ rb _ c n i L 3 _ lf R4.out (by decide)).mono ?_
  rintro e w5 ⟨rfl, b5⟩
  rw [show (decide ((3 : Int) = 0) && decide (tx L i = ⟨#[110, 111, 116]⟩)) = false from rfl]
  have R5 := Lib.hid (R4.out.below b5)
  have K5 := Lib.hid (K4.out.trans' (KeepR.of_below' b5))
  have G5 : Hid (w5.heap[g0]? = some (.cells #[.int .i64 0, .int .i64 0, .string ByteArray.empty, .slice none 0 0] 65 (0, 0))) := Lib.hid ((b5.block g0 (lt_of_block G4.out)).trans G4.out)
  have T5 : Hid (w5.heap[tb]? = some (.cells #[.int .i64 0, .int .i64 0, .string ⟨#[]⟩, .slice none 0 0] 65 (0, 0))) := Lib.hid ((b5.block tb (lt_of_block T4.out)).trans T4.out)
  have hz5 := lt_of_block T5.out
  obtain ⟨x0, x1, x2, x3⟩ := term_cells T5.out
  have y3 := Lib.frozen_of_heap T5.out 3
  clear b5
  go_upto_region 20 with fail
  have hwr : IntKind.i64.wrap (room - 1) = room - 1 := IntWalk.i64_in _ (by omega)
  go_region_law (first
    | (go_simp; go_at_call 46; refine (rs_term_fault (room - 1) _ rb _ c n i L 3 (posAt L n i) lf (fun b' o' e => by have := hAI b' o' e; have := K5.out.size; simp; omega) (R5.out.below (by repeat' (first | exact Below.refl _ _ | exact Nat.le_refl _ | (refine Below.alloc ?_ ?_ _) | (refine Below.setCell ?_ ?_ _) | (refine Below.drew ?_) | (refine below_drewN ?_ _) | assumption | (simp; done) | (simp; omega)))) (by decide)).mono ?_; rintro e wY ⟨rfl, bY⟩; have bZ : Below w5.heap.size w5 wY := Below.trans (by repeat' (first | exact Below.refl _ _ | exact Nat.le_refl _ | (refine Below.alloc ?_ ?_ _) | (refine Below.setCell ?_ ?_ _) | (refine Below.drew ?_) | (refine below_drewN ?_ _) | assumption | (simp; done) | (simp; omega))) (bY.mono (by simp)); have TY := Lib.hid ((bZ.block tb hz5).trans T5.out); obtain ⟨z0, z1, z2, z3⟩ := term_cells TY.out; have zf := Lib.frozen_of_heap TY.out 3; have hzY := lt_of_block TY.out; clear bY)
    | (refine step_kid (by rfl) _ _ (by rfl) (by rfl) (Own.start _ _ _) _ 1 1 [.int .i64 0, .int .i64 0, .string ⟨#[]⟩, .slice none 0 0] (by rfl) (by first | exact Rd.new _ 4 1 _ _ rfl | exact (Rd.new _ 4 1 _ _ rfl).drew) (by simp [Value.oneCell']) (by omega) ?_; intro v' wZ own' gr'; have bW : Below wY.heap.size wY wZ := Below.trans (Below.alloc (Below.refl _ _) (Nat.le_refl _) _) (own'.2.mono (by simp)); have TZ := Lib.hid ((bW.block tb hzY).trans TY.out); obtain ⟨t0, t1, t2, t3⟩ := term_cells TZ.out; have tf := Lib.frozen_of_heap TZ.out 3; have hzZ := lt_of_block TZ.out; obtain ⟨vA, vc, rfl, _⟩ := own'.slice; have OWN := Lib.hid own'; have BZ := Lib.hid (bZ.trans (bW.mono bZ.size)); clear own' gr'))
  all_goals
    obtain ⟨wq, hwq⟩ : ∃ wq, wZ.setCell ⟨tb, 3, none⟩ (.slice vA 1 vc) = wq := ⟨_, rfl⟩
    have Rq : Hid (RsAt wq rb A c n i L 3 (posAt L n i) lf) := Lib.hid (by rw [← hwq]; exact (R5.out.below BZ.out).setg HN1.out (fun b' o' e => by have := hAI b' o' e; have := HGG.out; omega) _ _)
    have Kq : Hid (KeepR rb w wq) := Lib.hid (by rw [← hwq]; exact set_keep1 (K5.out.trans' (KeepR.of_below' BZ.out)) (by have := HGG.out; omega) _ _)
    have Gq : Hid (wq.heap[g0]? = some (.cells #[.int .i64 0, .int .i64 0, .string ByteArray.empty, .slice none 0 0] 65 (0, 0))) := Lib.hid (by rw [← hwq]; exact (Below.heap_setCell wZ ⟨tb, 3, none⟩ _ g0 (by show g0 ≠ tb; omega)).trans ((BZ.out.block g0 (lt_of_block G5.out)).trans G5.out))
    have Tq : Hid (wq.heap[tb]? = some (.cells #[.int .i64 0, .int .i64 0, .string ⟨#[]⟩, .slice vA 1 vc] 65 (0, 0))) := Lib.hid (by rw [← hwq]; have := TZ.out; simp [World.setCell, Array.getElem?_modify, this])
    rw [hwq]
    clear hwq x0 x1 x2 x3 z0 z1 z2 z3 zf t0 t1 t2 t3 tf y3
    go_wp2_with fail
    go_loopw [8] (fun iv wr => ∃ j : Nat, 3 ≤ j ∧ j ≤ 10 ∧ iv = .int .i64 (j : Int) ∧ Hid (Below wq.heap.size wq wr)) (fun iv _ => 10 - (intOf iv).toNat)
    case atStart => exact ⟨3, Nat.le_refl _, by omega, rfl, Lib.hid (Below.refl _ _)⟩
    case round =>
      obtain ⟨j, hj3, hj, rfl, HB⟩ := hrel
      by_cases hlt' : j < 10
      · have h0 : (j : Int) ≤ 9 := by omega
        by_cases h8 : j = 8
        · subst h8
          go_wp2_with fail
          go_roundw
          case rel => exact ⟨9, by omega, by omega, by go_num, HB⟩
          case measure => simp [intOf]
        have hk : (j : Int) = 3 ∨ (j : Int) = 4 ∨ (j : Int) = 5 ∨ (j : Int) = 6 ∨ (j : Int) = 7 ∨ (j : Int) = 9 := by omega
        have HKJ := Lib.hid hk
        have h8i : ((j : Int) != 8) = true := by rw [bne_iff_ne]; omega
        have h8j : ((j : Int) == 8) = false := beq_eq_false_iff_ne.2 (by omega)
        clear hk
        go_wp2_with fail
        refine (spec_l03Sign (j : Int) HKJ.out _).mono ?_
        rintro e wa ⟨rfl, ba⟩
        have HBa := Lib.hid (below_then HB.out ba)
        clear ba
        go_wp2_with fail
        refine (rs_is (signB (j : Int)) _ rb _ c n i L 3 (posAt L n i) lf (Rq.out.below HBa.out) (signB_ne HKJ.out)).mono ?_
        rintro e wb ⟨rfl, bb⟩
        rw [show (decide ((3 : Int) = 0) && decide (tx L i = signB (j : Int))) = false from rfl]
        have HBb := Lib.hid (below_then HBa.out bb)
        clear bb
        go_wp2_with fail
        go_roundw
        case rel => exact ⟨j + 1, by omega, by omega, by go_num, HBb⟩
        case measure => simp [intOf]; omega
      · have h0 : ¬ (j : Int) ≤ 9 := by omega
        have Tr : Hid (wr.heap[tb]? = some (.cells #[.int .i64 0, .int .i64 0, .string ⟨#[]⟩, .slice vA 1 vc] 65 (0, 0))) := Lib.hid ((HB.out.block tb (lt_of_block Tq.out)).trans Tq.out)
        have Gr : Hid (wr.heap[g0]? = some (.cells #[.int .i64 0, .int .i64 0, .string ByteArray.empty, .slice none 0 0] 65 (0, 0))) := Lib.hid ((HB.out.block g0 (lt_of_block Gq.out)).trans Gq.out)
        have Rr := Lib.hid (Rq.out.below HB.out)
        have Kr := Lib.hid (Kq.out.trans' (KeepR.of_below' HB.out))
        obtain ⟨x0, x1, x2, x3⟩ := term_cells Tr.out
        have hzr := lt_of_block Tr.out
        obtain ⟨v0, v1, v2, v3⟩ := term_cells Gr.out
        have f0 := Lib.frozen_of_heap Gr.out 0
        have f1 := Lib.frozen_of_heap Gr.out 1
        have f2 := Lib.frozen_of_heap Gr.out 2
        have f3 := Lib.frozen_of_heap Gr.out 3
        have hz := lt_of_block Gr.out
        go_wp2_with fail
        refine (rs_bad2 3 _ rb _ c n i L 3 (posAt L n i) lf Rr.out (by decide)).mono ?_
        rintro e wc ⟨rfl, rfl⟩
        go_wp2_with fail
        obtain ⟨W, hWW⟩ : ∃ W, ((((wr.setCell ⟨g0, 0, none⟩ (.int .i64 0)).setCell ⟨g0, 1, none⟩ (.int .i64 0)).setCell ⟨g0, 2, none⟩ (.string ⟨#[]⟩)).setCell ⟨g0, 3, none⟩ (.slice vA 1 vc)) = W := ⟨_, rfl⟩
        have hWg : W.heap[g0]? = some (.cells #[.int .i64 0, .int .i64 0, .string ⟨#[]⟩, .slice vA 1 vc] 65 (0, 0)) := by
          rw [← hWW]
          exact term_set Gr.out _ _ _ _
        have RW : RsAt W rb A c n i L 3 (posAt L n i) lf := by
          rw [← hWW]
          exact (Rr.out).set4 HN0.out HA1.out _ _ _ _
        have KW : KeepR rb w W := by
          rw [← hWW]
          exact set_keep4 (Kr.out) (by rw [HGG.out]; exact Nat.le_refl _) _ _ _ _
        obtain ⟨y0, y1, y2, y3⟩ := term_cells hWg
        rw [hWW]
        clear hWg hWW
        refine bodyPost_ret (v := .agg #[.int .i64 0, .int .i64 0, .string ⟨#[]⟩, .slice vA 1 vc]) (by simp [results, Tryd.results46, go_sem, y0, y1, y2, y3]) rfl ?_
        exact ⟨KW, 0, 0, ⟨#[]⟩, vA, 1, vc, rfl, by decide, i, RW⟩--@@
set_option maxHeartbeats 3200000 in
set_option maxRecDepth 100000 in
theorem rs_term_deep (room : Int) (g : Got Tm) (w : World) (rb : Nat) (A : Option Addr) (c n i : Nat) (L : List Sg) (lf : Int) (hs : SgsOk L) (hA : ∀ b o, A = some ⟨b, o, none⟩ → b < w.heap.size) (h : RsAt w rb A c n i L 0 0 lf) (hroom : (room == 0) = true) (hk : ¬ (sgAt L i).k = 2) (hn : nmB L i = false) (hp : tx L i = ⟨#[40]⟩) (hg : g = .bad 4 (posAt L n i)) :
    Calls Tryd.prog 46 #[.pointer (some ⟨rb, 0, none⟩), .int .i64 room] w fun e w' => GsT w w' rb A c n L lf g e := by
  subst hg
  have RA := Lib.hid h
  have HA := Lib.hid hA
  have HS := Lib.hid hs
  have hL := h.hL
  have hcc := h.hc
  have hiL := h.hi
  have hrb := h.lt
  obtain ⟨_, _, _, p3, _, _⟩ := h.cs
  have HNM := Lib.hid hn
  have HP := Lib.hid hp
  have hlt : i < L.length := there_of (by rw [hp]; decide)
  have HKK : Hid (¬ L[i].k = 2) := Lib.hid (by rw [← sgAt_lt hlt]; exact hk)
  clear h hA hs hk hn hp
  go_enter Tryd.func46, Tryd.ntmps46
  go_wp2_with fail
  have BA : Below w.heap.size w ((w.alloc (.cells #[.int .i64 0, .int .i64 0, .string ByteArray.empty, .slice none 0 0] 65)).alloc (.cells #[.int .i64 0, .int .i64 0, .string ⟨#[]⟩, .slice none 0 0] 65)) := (by repeat' (first | exact Below.refl _ _ | exact Nat.le_refl _ | (refine Below.alloc ?_ ?_ _) | (refine Below.setCell ?_ ?_ _) | (refine Below.drew ?_) | (refine below_drewN ?_ _) | assumption | (simp; done) | (simp; omega)))
  refine (rs_named _ rb A c n i L 0 0 lf (RA.out.below BA) HS.out).mono ?_
  rintro e w1 ⟨rfl, b1⟩
  rw [show (decide ((0 : Int) = 0) && nmB L i) = false from by rw [HNM.out]; rfl]
  have B1 : Hid (Below w.heap.size w w1) := Lib.hid (BA.trans (b1.mono BA.size))
  have R1 := Lib.hid (RA.out.below B1.out)
  have HG0 : Hid (w1.heap[w.heap.size]? = some (.cells #[.int .i64 0, .int .i64 0, .string ByteArray.empty, .slice none 0 0] 65 (0, 0))) := Lib.hid ((b1.block _ (by simp; omega)).trans ((heap_alloc_lt (by simp)).trans (heap_alloc_new _ _)))
  have HTB : Hid (w1.heap[w.heap.size + 1]? = some (.cells #[.int .i64 0, .int .i64 0, .string ⟨#[]⟩, .slice none 0 0] 65 (0, 0))) := Lib.hid ((b1.block _ (by simp)).trans (by have := heap_alloc_new (w.alloc (.cells #[.int .i64 0, .int .i64 0, .string ByteArray.empty, .slice none 0 0] 65)) (.cells #[.int .i64 0, .int .i64 0, .string ⟨#[]⟩, .slice none 0 0] 65); simpa using this))
  have K1 : Hid (KeepR rb w w1) := Lib.hid (KeepR.of_below' B1.out)
  have hz1 := lt_of_block HTB.out
  have hrb1 := R1.out.lt
  obtain ⟨g0, hg0⟩ : ∃ g, w.heap.size = g := ⟨_, rfl⟩
  obtain ⟨tb, htb⟩ : ∃ g, w.heap.size + 1 = g := ⟨_, rfl⟩
  have HN0 : Hid (g0 ≠ rb) := Lib.hid (by omega)
  have HN1 : Hid (tb ≠ rb) := Lib.hid (by omega)
  have HA1 : Hid (∀ b o, A = some ⟨b, o, none⟩ → b ≠ g0) := Lib.hid (fun b o e => by have := HA.out b o e; omega)
  have HGG := Lib.hid hg0
  have hg0r : ¬ g0 = rb := HN0.out
  have hg0t : g0 < tb := by omega
  have htb1 : g0 + 1 = tb := by omega
  rw [hg0] at HG0 ⊢
  rw [htb] at HTB hz1
  rw [htb1]
  have hz0 := lt_of_block HG0.out
  clear b1 BA hg0 htb htb1 p3
  have hAI := HA.out
  obtain ⟨b, off, rfl, e0, e1, e2⟩ := rd_sg R1.out.rd hlt
  obtain ⟨x, hx⟩ : ∃ x, L[i] = x := ⟨_, rfl⟩
  have HX := Lib.hid hx
  rw [hx] at e0 e1
  obtain ⟨xk, xt, xp⟩ := x
  simp only at e0 e1
  have E0 := Lib.hid e0
  have E1 := Lib.hid e1
  have h0i : (0 : Int) ≤ (i : Int) := by omega
  have hdi : (i : Int) < (L.length : Int) := by omega
  clear hx e0 e1 e2
  have hxk : (xk == 2) = false := beq_eq_false_iff_ne.2 (by have := HKK.out; rw [HX.out] at this; exact this)
  go_upto_region 6 with fail
  refine wp_region_later (by kernel_rfl) (by kernel_rfl) ?_
  intro gw hgw hcw
  have HG := Lib.hid hgw
  have HC := Lib.hid hcw
  clear hgw hcw
  have P := Lib.hid (fun m => (R1.out.below (HG.out m)).cs)
  have p0 : ∀ m, (gw m).cell? ⟨rb, 0, none⟩ = some (.slice (some ⟨b, off, none⟩) L.length c) := fun m => (P.out m).1
  have p1 : ∀ m, (gw m).cell? ⟨rb, 1, none⟩ = some (.int .i64 (i : Int)) := fun m => (P.out m).2.1
  have s0 : ∀ m, (gw m).cell? ⟨b, off + i * 3, none⟩ = some (.int .i64 xk) := fun m => cell_keep (HG.out m) E0.out
  have s1 : ∀ m, (gw m).cell? ⟨b, off + i * 3 + 1, none⟩ = some (.string xt) := fun m => cell_keep (HG.out m) E1.out
  repeat (go_big_quiet_step (fail))
  refine wpQuiet_nil ?_
  intro _ hw'
  obtain ⟨nq, hw''⟩ := hw'
  subst hw''
  rename Later _ => mm
  have R2 := Lib.hid (R1.out.below (HG.out mm))
  have K2 := Lib.hid (K1.out.trans' (KeepR.of_below' (HG.out mm)))
  have G2 : Hid ((gw mm).heap[g0]? = some (.cells #[.int .i64 0, .int .i64 0, .string ByteArray.empty, .slice none 0 0] 65 (0, 0))) := Lib.hid (((HG.out mm).block g0 (lt_of_block HG0.out)).trans HG0.out)
  have T2 : Hid ((gw mm).heap[tb]? = some (.cells #[.int .i64 0, .int .i64 0, .string ⟨#[]⟩, .slice none 0 0] 65 (0, 0))) := Lib.hid (((HG.out mm).block tb (lt_of_block HTB.out)).trans HTB.out)
  have E20 : Hid ((gw mm).cell? ⟨b, off + i * 3, none⟩ = some (.int .i64 xk)) := Lib.hid (cell_keep (HG.out mm) E0.out)
  have E21 : Hid ((gw mm).cell? ⟨b, off + i * 3 + 1, none⟩ = some (.string xt)) := Lib.hid (cell_keep (HG.out mm) E1.out)
  clear p0 p1 s0 s1 P
  generalize gw mm = w2 at *
  go_wp2_with fail
  refine (rs_is ⟨#[40]⟩ _ rb _ c n i L 0 0 lf R2.out (by decide)).mono ?_
  rintro e w3 ⟨rfl, b3⟩
  rw [show (decide ((0 : Int) = 0) && decide (tx L i = ⟨#[40]⟩)) = true from by rw [decide_eq_true HP.out]; rfl]
  have R3 := Lib.hid (R2.out.below b3)
  have K3 := Lib.hid (K2.out.trans' (KeepR.of_below' b3))
  have G3 : Hid (w3.heap[g0]? = some (.cells #[.int .i64 0, .int .i64 0, .string ByteArray.empty, .slice none 0 0] 65 (0, 0))) := Lib.hid ((b3.block g0 (lt_of_block G2.out)).trans G2.out)
  have T3 : Hid (w3.heap[tb]? = some (.cells #[.int .i64 0, .int .i64 0, .string ⟨#[]⟩, .slice none 0 0] 65 (0, 0))) := Lib.hid ((b3.block tb (lt_of_block T2.out)).trans T2.out)
  clear b3
  go_wp2_with fail
  refine (rs_bad 4 _ rb _ c n i L 0 lf R3.out).mono ?_
  rintro e w4 ⟨rfl, r4, k4⟩
  have R4 := Lib.hid r4
  have K4 := Lib.hid (K3.out.trans' k4)
  have G4 : Hid (w4.heap[g0]? = some (.cells #[.int .i64 0, .int .i64 0, .string ByteArray.empty, .slice none 0 0] 65 (0, 0))) := Lib.hid ((k4.block g0 (lt_of_block G3.out) hg0r).trans G3.out)
  have T4 : Hid (w4.heap[tb]? = some (.cells #[.int .i64 0, .int .i64 0, .string ⟨#[]⟩, .slice none 0 0] 65 (0, 0))) := Lib.hid ((k4.block tb (lt_of_block T3.out) HN1.out).trans T3.out)
  obtain ⟨x0, x1, x2, x3⟩ := term_cells T4.out
  have hzr := lt_of_block T4.out
  clear r4 k4
  obtain ⟨v0, v1, v2, v3⟩ := term_cells G4.out
  have f0 := Lib.frozen_of_heap G4.out 0
  have f1 := Lib.frozen_of_heap G4.out 1
  have f2 := Lib.frozen_of_heap G4.out 2
  have f3 := Lib.frozen_of_heap G4.out 3
  have hz := lt_of_block G4.out
  go_wp2_with fail
  obtain ⟨W, hWW⟩ : ∃ W, ((((w4.setCell ⟨g0, 0, none⟩ (.int .i64 0)).setCell ⟨g0, 1, none⟩ (.int .i64 0)).setCell ⟨g0, 2, none⟩ (.string ⟨#[]⟩)).setCell ⟨g0, 3, none⟩ (.slice none 0 0)) = W := ⟨_, rfl⟩
  have hWg : W.heap[g0]? = some (.cells #[.int .i64 0, .int .i64 0, .string ⟨#[]⟩, .slice none 0 0] 65 (0, 0)) := by
    rw [← hWW]
    exact term_set G4.out _ _ _ _
  have RW : RsAt W rb (some ⟨b, off, none⟩) c n i L 4 (posAt L n i) lf := by
    rw [← hWW]
    exact (R4.out).set4 HN0.out HA1.out _ _ _ _
  have KW : KeepR rb w W := by
    rw [← hWW]
    exact set_keep4 (K4.out) (by rw [HGG.out]; exact Nat.le_refl _) _ _ _ _
  obtain ⟨y0, y1, y2, y3⟩ := term_cells hWg
  rw [hWW]
  clear hWg hWW
  refine bodyPost_ret (v := .agg #[.int .i64 0, .int .i64 0, .string ⟨#[]⟩, .slice none 0 0]) (by simp [results, Tryd.results46, go_sem, y0, y1, y2, y3]) rfl ?_
  exact ⟨KW, 0, 0, ⟨#[]⟩, none, 0, 0, rfl, by decide, i, RW⟩
end Go.Proofs.YtdanlgmpgdipnaaDoor
