/- Several texts in one: RdPgT. -/
import Derived.Test.YtdanlgmpgdipnaaDoorKd49
import Derived.Test.YtdanlgmpgdipnaaDoorKd44
namespace Go.Proofs.YtdanlgmpgdipnaaDoor
open Go.RowKit
set_option linter.unusedVariables false


theorem Own.slice3P {w0 w : World} {t : TypeId} {k n : Nat} {v : Value} {cs : List Value} (h : Own w0 w t k v n cs) : ∃ A m c, v = .slice A m c := by
  obtain ⟨A, c, rfl, _⟩ := h.slice
  exact ⟨A, n, c, rfl⟩
/-- what reading a program leaves -/
def GotPg (w w' : World) (rb : Nat) (A : Option Addr) (c n : Nat) (L : List Sg) (g : Got Pg) (e : Ending) : Prop :=
  KeepR rb w w' ∧ match g with
    | .ok p q => ∃ x : V3, e = .returned (.tuple #[x.val p, .bool true]) ∧ PgO w' (Made w w') x p
    | .bad fc fp => ∃ q, e = .returned (.tuple #[.agg #[.slice none 0 0, .slice none 0 0, .slice none 0 0], .bool false]) ∧ RdAt w' rb A c n q L fc fp
def put3 (w : World) (g : Nat) (x y z : Value) : World := ((w.setCell ⟨g, 0, none⟩ x).setCell ⟨g, 1, none⟩ y).setCell ⟨g, 2, none⟩ z
section
variable {w Wn : World} {rb g : Nat} {A : Option Addr} {c n q : Nat} {L : List Sg}
theorem put3_keepR (x y z : Value) (hg : w.heap.size ≤ g) (hk : KeepR rb w Wn) : KeepR rb w (put3 Wn g x y z) := KeepR.setgP (KeepR.setgP (KeepR.setgP hk (o := 0) hg _) (o := 1) hg _) (o := 2) hg _
theorem put3_rd {fc : Int} {fp : Nat} (x y z : Value) (hr : RdAt Wn rb A c n q L fc fp) (hg : g ≠ rb) (hA : ∀ b o, A = some ⟨b, o, none⟩ → b ≠ g) : RdAt (put3 Wn g x y z) rb A c n q L fc fp := ((hr.setg hg hA 0 _).setg hg hA 1 _).setg hg hA 2 _
theorem finGB {fc : Int} {fp : Nat} (hg : w.heap.size = g) (hk : KeepR rb w Wn) (hr : RdAt Wn rb A c n q L fc fp) (hA : ∀ b o, A = some ⟨b, o, none⟩ → b < w.heap.size) (hrb : rb < w.heap.size) :
    GotPg w (put3 Wn g (.slice none 0 0) (.slice none 0 0) (.slice none 0 0)) rb A c n L (.bad fc fp) (.returned (.tuple #[.agg #[.slice none 0 0, .slice none 0 0, .slice none 0 0], .bool false])) :=
  ⟨put3_keepR _ _ _ (by omega) hk, q, rfl, put3_rd _ _ _ hr (by omega) (fun b o e => by have := hA b o e; omega)⟩
theorem finGO {F : Nat → Prop} {p : Pg} (x : V3) (hg : w.heap.size = g) (hk : KeepR rb w Wn) (hp : PgO Wn F x p) (hF : ∀ b, F b → w.heap.size < b ∧ b < Wn.heap.size) :
    GotPg w (put3 Wn g (.slice x.gA p.globals.length x.gc) (.slice x.lA p.locks.length x.lc) (.slice x.pA p.procs.length x.pc)) rb A c n L (.ok p q) (.returned (.tuple #[x.val p, .bool true])) :=
  ⟨put3_keepR _ _ _ (by omega) hk, x, rfl, (hp.keep fun b hb => s3_blk (by have := (hF b hb).1; omega)).sub (fun b hb => ⟨by have := (hF b hb).1; omega, by have := (hF b hb).2; simpa [put3] using this⟩)⟩
end
set_option maxHeartbeats 12800000 in
set_option maxRecDepth 100000 in
theorem rd_prog (W0 w : World) (rb : Nat) (A : Option Addr) (c n : Nat) (L : List Sg) (tab : TabW W0) (bs : Below W0.heap.size W0 w) (hr0 : W0.heap.size ≤ rb) (hA : ∀ b o, A = some ⟨b, o, none⟩ → b < w.heap.size) (h : RdAt w rb A c n 0 L 0 0) :
    Calls Tryd.prog 18 #[.pointer (some ⟨rb, 0, none⟩)] w fun e w' => GotPg w w' rb A c n L (rdG L n) e := by
  have RA := Lib.hid h
  have HA := Lib.hid hA
  have TB := Lib.hid tab
  have BS := Lib.hid bs
  have hrb := h.lt
  have hL6 := h.hL
  have hbs := bs.size
  have hfd := sg_field
  have CG : Hid (rdG L n = (nmsG L n ⟨#[103, 108, 111, 98, 97, 108, 115]⟩ 6 0).bind fun g i => pgL L n g i) := Lib.hid (rdG_eq L n)
  clear h hA tab bs
  go_enter Tryd.func18, Tryd.ntmps18
  go_wp2_with fail
  have BA : Hid (Below w.heap.size w ((w.alloc (.cells #[.slice none 0 0, .slice none 0 0, .slice none 0 0] 25)).alloc (.cells #[.slice none 0 0, .slice none 0 0, .slice none 0 0] 25))) := Lib.hid (by repeat' (first | exact Below.refl _ _ | exact Nat.le_refl _ | (refine Below.alloc ?_ ?_ _) | (refine Below.setCell ?_ ?_ _) | (refine Below.drew ?_) | (refine below_drewN ?_ _) | assumption | (simp; done) | (simp; omega)))
  have V2 : Hid (((w.alloc (.cells #[.slice none 0 0, .slice none 0 0, .slice none 0 0] 25)).alloc (.cells #[.slice none 0 0, .slice none 0 0, .slice none 0 0] 25)).heap[w.heap.size]? = some (.cells #[.slice none 0 0, .slice none 0 0, .slice none 0 0] 25 (0, 0))) := Lib.hid ((heap_alloc_lt (by simp)).trans (heap_alloc_new _ _))
  have V4 : Hid (((w.alloc (.cells #[.slice none 0 0, .slice none 0 0, .slice none 0 0] 25)).alloc (.cells #[.slice none 0 0, .slice none 0 0, .slice none 0 0] 25)).heap[w.heap.size + 1]? = some (.cells #[.slice none 0 0, .slice none 0 0, .slice none 0 0] 25 (0, 0))) := Lib.hid (by have := heap_alloc_new (w.alloc (.cells #[.slice none 0 0, .slice none 0 0, .slice none 0 0] 25)) (.cells #[.slice none 0 0, .slice none 0 0, .slice none 0 0] 25); simpa using this)
  have R0 := Lib.hid (RA.out.below BA.out)
  have K0 : Hid (KeepR rb w ((w.alloc (.cells #[.slice none 0 0, .slice none 0 0, .slice none 0 0] 25)).alloc (.cells #[.slice none 0 0, .slice none 0 0, .slice none 0 0] 25))) := Lib.hid (KeepR.of_below' BA.out)
  obtain ⟨w0, hw0⟩ : ∃ w0, (w.alloc (.cells #[.slice none 0 0, .slice none 0 0, .slice none 0 0] 25)).alloc (.cells #[.slice none 0 0, .slice none 0 0, .slice none 0 0] 25) = w0 := ⟨_, rfl⟩
  have hz0 : w0.heap.size = w.heap.size + 2 := by rw [← hw0]; simp
  rw [hw0] at V2 V4 R0 K0 ⊢
  clear hw0 BA
  obtain ⟨g2, hg2⟩ : ∃ g, w.heap.size = g := ⟨_, rfl⟩
  obtain ⟨g4, hg4⟩ : ∃ g, w.heap.size + 1 = g := ⟨_, rfl⟩
  have HG := Lib.hid hg2
  have HG4 := Lib.hid hg4
  have hn2r : ¬ g2 = rb := by omega
  have hnr2 : ¬ rb = g2 := by omega
  have hn4r : ¬ g4 = rb := by omega
  have hnr4 : ¬ rb = g4 := by omega
  have hn24 : ¬ g2 = g4 := by omega
  have hn42 : ¬ g4 = g2 := by omega
  have HA4 : Hid (∀ b o, A = some ⟨b, o, none⟩ → b ≠ g4) := Lib.hid (fun b o e => by have := HA.out b o e; omega)
  rw [hg2] at V2
  rw [hg4] at V4
  (try rw [hg4])
  (try rw [hg2])
  clear hg2 hg4
  refine (rd_names ⟨#[103, 108, 111, 98, 97, 108, 115]⟩ (by decide) _ rb A c n 0 L (fun b o e => Nat.lt_of_lt_of_le (HA.out b o e) K0.out.size) R0.out).mono ?_
  rintro e gw ⟨kg, hret⟩
  have Kg : Hid (KeepR rb w gw) := Lib.hid (K0.out.trans' kg)
  have V2g := Lib.hid ((kg.block g2 (lt_of_block V2.out) hn2r).trans V2.out)
  have V4g := Lib.hid ((kg.block g4 (lt_of_block V4.out) hn4r).trans V4.out)
  have Sg := Lib.hid kg.size
  clear kg
  obtain ⟨gg, hgg⟩ : ∃ gg, nmsG L n ⟨#[103, 108, 111, 98, 97, 108, 115]⟩ 6 0 = gg := ⟨_, rfl⟩
  rw [hgg] at hret
  cases gg with
  | bad fc fp =>
    obtain ⟨q, A', m, c', rfl, r5⟩ := hret
    have R5 := Lib.hid r5
    have GG : Hid (rdG L n = .bad fc fp) := Lib.hid (by rw [CG.out, hgg]; rfl)
    clear r5 hgg
    obtain ⟨d0, d1, d2, e0, e1, e2⟩ := box3 V4g.out
    have hz4 := lt_of_block V4g.out
    have RS := Lib.hid (R5.out.setg (fun e => hn4r e) HA4.out 0 (.slice A' m c'))
    have KS := Lib.hid (KeepR.setgP Kg.out (g := g4) (o := 0) (by have := HG4.out; omega) (.slice A' m c'))
    have VS := Lib.hid ((Below.heap_setCell gw ⟨g4, 0, none⟩ (.slice A' m c') g2 hn24).trans V2g.out)
    obtain ⟨c0, c1, c2, f0, f1, f2⟩ := box3 VS.out
    have hz := lt_of_block VS.out
    go_wp2_with fail
    refine bodyPost_ret (v := .tuple #[.agg #[.slice none 0 0, .slice none 0 0, .slice none 0 0], .bool false]) (by simp [results, Tryd.results18, go_sem, c0, c1, c2]) rfl ?_
    rw [GG.out]
    exact finGB HG.out KS.out RS.out HA.out hrb
  | ok gl qg =>
    obtain ⟨gA, gc, rfl, hg1, hg2c, rowg, rg⟩ := hret
    have CL : Hid (rdG L n = pgL L n gl qg) := Lib.hid (by rw [CG.out, hgg]; rfl)
    have RG := Lib.hid rowg
    have Rg := Lib.hid rg
    clear rowg rg hgg CG
    obtain ⟨d0, d1, d2, e0, e1, e2⟩ := box3 V4g.out
    have hz4 := lt_of_block V4g.out
    have hsz0 : w0.heap.size ≤ gw.heap.size := Sg.out
    have R1 := Lib.hid (Rg.out.setg (fun e => hn4r e) HA4.out 0 (.slice gA gl.length gc))
    have K1 := Lib.hid (KeepR.setgP Kg.out (g := g4) (o := 0) (by have := HG4.out; omega) (.slice gA gl.length gc))
    have V21 := Lib.hid ((Below.heap_setCell gw ⟨g4, 0, none⟩ (.slice gA gl.length gc) g2 hn24).trans V2g.out)
    have V41 := Lib.hid (s3_0 V4g.out (.slice gA gl.length gc))
    have RG1 := Lib.hid (RG.out.set (p := ⟨g4, 0, none⟩) (fun h => by have h1 : w0.heap.size ≤ g4 := h.1; have := HG4.out; omega) (.slice gA gl.length gc))
    go_wp2_with fail
    obtain ⟨w1, hw1⟩ : ∃ w1, gw.setCell ⟨g4, 0, none⟩ (.slice gA gl.length gc) = w1 := ⟨_, rfl⟩
    have hz1 : w1.heap.size = gw.heap.size := by rw [← hw1]; simp
    rw [hw1] at R1 K1 V21 V41 RG1 ⊢
    clear hw1 Rg Kg V2g V4g RG d0 d1 d2 e0 e1 e2
    have CLq : Hid (rdG L n = (nmsG L n ⟨#[108, 111, 99, 107, 115]⟩ 6 qg).bind fun l i2 => pgP gl l (prR L n 8 [] i2)) := Lib.hid (CL.out.trans (pgL_eq L n gl qg))
    refine (rd_names ⟨#[108, 111, 99, 107, 115]⟩ (by decide) _ rb A c n qg L (fun b o e => Nat.lt_of_lt_of_le (HA.out b o e) K1.out.size) R1.out).mono ?_
    rintro e lw ⟨kl, hret⟩
    have Kl : Hid (KeepR rb w lw) := Lib.hid (K1.out.trans' kl)
    have V2l := Lib.hid ((kl.block g2 (lt_of_block V21.out) hn2r).trans V21.out)
    have V4l := Lib.hid ((kl.block g4 (lt_of_block V41.out) hn4r).trans V41.out)
    have Sl := Lib.hid kl.size
    have RG2 := Lib.hid (RG1.out.keep fun b hb => kl.block b (by have := hb.2; omega) (by have := hb.1; have := HG4.out; omega))
    clear kl
    obtain ⟨gg, hgg⟩ : ∃ gg, nmsG L n ⟨#[108, 111, 99, 107, 115]⟩ 6 qg = gg := ⟨_, rfl⟩
    rw [hgg] at hret
    cases gg with
    | bad fc fp =>
      obtain ⟨q, A', m, c', rfl, r5⟩ := hret
      have R5 := Lib.hid r5
      have GG : Hid (rdG L n = .bad fc fp) := Lib.hid (by rw [CLq.out, hgg]; rfl)
      clear r5 hgg
      obtain ⟨d0, d1, d2, e0, e1, e2⟩ := box3 V4l.out
      have hz4 := lt_of_block V4l.out
      have RS := Lib.hid (R5.out.setg (fun e => hn4r e) HA4.out 1 (.slice A' m c'))
      have KS := Lib.hid (KeepR.setgP Kl.out (g := g4) (o := 1) (by have := HG4.out; omega) (.slice A' m c'))
      have VS := Lib.hid ((Below.heap_setCell lw ⟨g4, 1, none⟩ (.slice A' m c') g2 hn24).trans V2l.out)
      obtain ⟨c0, c1, c2, f0, f1, f2⟩ := box3 VS.out
      have hz := lt_of_block VS.out
      go_wp2_with fail
      refine bodyPost_ret (v := .tuple #[.agg #[.slice none 0 0, .slice none 0 0, .slice none 0 0], .bool false]) (by simp [results, Tryd.results18, go_sem, c0, c1, c2]) rfl ?_
      rw [GG.out]
      exact finGB HG.out KS.out RS.out HA.out hrb
    | ok ll ql =>
      obtain ⟨lA, lc, rfl, hl1, hl2c, rowl, rl⟩ := hret
      have CP : Hid (rdG L n = pgP gl ll (prR L n 8 [] ql)) := Lib.hid (by rw [CLq.out, hgg]; rfl)
      have RL := Lib.hid rowl
      have Rl := Lib.hid rl
      clear rowl rl hgg CL CLq
      obtain ⟨d0, d1, d2, e0, e1, e2⟩ := box3 V4l.out
      have hz4l := lt_of_block V4l.out
      have hsz1 : w1.heap.size ≤ lw.heap.size := Sl.out
      have R2 := Lib.hid (Rl.out.setg (fun e => hn4r e) HA4.out 1 (.slice lA ll.length lc))
      have K2 := Lib.hid (KeepR.setgP Kl.out (g := g4) (o := 1) (by have := HG4.out; omega) (.slice lA ll.length lc))
      have V22 := Lib.hid ((Below.heap_setCell lw ⟨g4, 1, none⟩ (.slice lA ll.length lc) g2 hn24).trans V2l.out)
      have V42 := Lib.hid (s3_1 V4l.out (.slice lA ll.length lc))
      have RG3 := Lib.hid (RG2.out.set (p := ⟨g4, 1, none⟩) (fun h => by have h1 : w0.heap.size ≤ g4 := h.1; have := HG4.out; omega) (.slice lA ll.length lc))
      have RL3 := Lib.hid (RL.out.set (p := ⟨g4, 1, none⟩) (fun h => by have h1 : w1.heap.size ≤ g4 := h.1; have := HG4.out; omega) (.slice lA ll.length lc))
      go_wp2_with fail
      obtain ⟨wl, hwl⟩ : ∃ wl, lw.setCell ⟨g4, 1, none⟩ (.slice lA ll.length lc) = wl := ⟨_, rfl⟩
      have hzl : wl.heap.size = lw.heap.size := by rw [← hwl]; simp
      rw [hwl] at R2 K2 V22 V42 RG3 RL3 ⊢
      clear hwl Rl Kl V2l V4l RL RG1 RG2 d0 d1 d2 e0 e1 e2 R1 K1 V21 V41
      have hg4l : g4 < wl.heap.size := lt_of_block V42.out
      have hg2l : g2 < wl.heap.size := lt_of_block V22.out
      have hrbl : rb < wl.heap.size := R2.out.lt
      have hwwl : w.heap.size ≤ wl.heap.size := K2.out.size
      go_loopw [] (fun wr => ∃ (acc : List Pr) (j : Nat), acc.length ≤ 8 ∧ Hid (∃ (A' : Option Addr) (c' : Nat), wr.heap[g2]? = some (.cells #[.slice none 0 0, .slice none 0 0, .slice none 0 0] 25 (0, 0)) ∧ wr.heap[g4]? = some (.cells #[.slice gA gl.length gc, .slice lA ll.length lc, .slice A' acc.length c'] 25 (0, 0)) ∧ GrwP wl.heap.size wr (.slice A' acc.length c') acc ∧ RdAt wr rb A c n j L 0 0 ∧ KeepR rb w wr ∧ KeepM rb g4 wl wr ∧ rdG L n = pgP gl ll (prR L n (8 - acc.length) acc j))) (fun wr => L.length + 1 - atOf wr rb)
      case atStart => exact ⟨[], ql, by simp, Lib.hid ⟨none, 0, V22.out, V42.out, GrwP.nil (Nat.le_refl _), R2.out, K2.out, Keep.refl _ _, CP.out⟩⟩
      case round =>
        rename World => wr
        obtain ⟨acc, j, ha8, HR⟩ := hrel
        obtain ⟨A', c', hv2, hv4, hgr, hrd, hkp, hkm, hch⟩ := HR.out
        have V23 := Lib.hid hv2
        have V43 := Lib.hid hv4
        have GR0 := Lib.hid hgr
        have R3 := Lib.hid hrd
        have K3 := Lib.hid hkp
        have M3 := Lib.hid hkm
        have CH := Lib.hid hch
        have hat := Lib.hid (atOf_rd hrd)
        obtain ⟨_, _, hAc, hc1, hc2⟩ := hgr.slice
        have hc1' : acc.length ≤ c' := by injection hAc with _ _ e; omega
        have hc2' : c' ≤ maxLen := by injection hAc with _ _ e; omega
        clear hv2 hv4 hgr hrd hkp hkm hch HR hAc hc1 hc2
        go_wp2_with fail
        refine (rd_atEnd _ rb A c n j L 0 0 R3.out).mono ?_
        rintro e wa ⟨rfl, b1⟩
        have Ra := Lib.hid (R3.out.below b1)
        have Ga := Lib.hid (GR0.out.below b1)
        have Ka : Hid (KeepR rb w wa) := Lib.hid (K3.out.trans' (KeepR.of_below' b1))
        have Ma : Hid (KeepM rb g4 wl wa) := Lib.hid (M3.out.trans' (KeepM.of_below b1))
        have V2a := Lib.hid ((b1.block g2 (lt_of_block V23.out)).trans V23.out)
        have V4a := Lib.hid ((b1.block g4 (lt_of_block V43.out)).trans V43.out)
        clear b1 R3 GR0 K3 M3 V23 V43
        by_cases hd : L.length ≤ j
        · rw [decide_eq_true hd]
          have GG : Hid (rdG L n = .ok ⟨gl, ll, acc⟩ j) := Lib.hid (by rw [CH.out, prR_end (by omega)]; rfl)
          obtain ⟨c0, c1, c2, f0, f1, f2⟩ := box3 V2a.out
          obtain ⟨d0, d1, d2, _, _, _⟩ := box3 V4a.out
          have hz := lt_of_block V2a.out
          have hz4a := lt_of_block V4a.out
          have RGa := Lib.hid (RG3.out.keep fun b hb => Ma.out.block b (by have := hb.2; omega) ⟨by have := hb.1; have := HG4.out; omega, by have := hb.1; have := HG4.out; omega⟩)
          have RLa := Lib.hid (RL3.out.keep fun b hb => Ma.out.block b (by have := hb.2; omega) ⟨by have := hb.1; have := HG4.out; omega, by have := hb.1; have := HG4.out; omega⟩)
          have hsm := Ma.out.size
          have PO : Hid (PgO wa (fun b => w0.heap.size ≤ b ∧ b < wa.heap.size) ⟨gA, gc, lA, lc, A', c'⟩ ⟨gl, ll, acc⟩) := Lib.hid (pgO_of RGa.out RLa.out Ga.out.row (by omega) (by omega) (by omega) (fun b hb => ⟨hb.1, hb.2.1⟩) (by omega) (by omega) (by omega) hg1 hg2c hl1 hl2c hc1' hc2')
          clear hd
          go_wp2_with fail
          refine bodyPost_ret (v := .tuple #[.agg #[.slice gA gl.length gc, .slice lA ll.length lc, .slice A' acc.length c'], .bool true]) (by simp [results, Tryd.results18, go_sem, c0, c1, c2]) rfl ?_
          rw [GG.out]
          have hfin := finGO (rb := rb) (g := g2) (Wn := wa) (p := ⟨gl, ll, acc⟩) (q := j) (n := n) (L := L) (A := A) (c := c) ⟨gA, gc, lA, lc, A', c'⟩ HG.out Ka.out PO.out (fun b hb => ⟨by have := hb.1; omega, hb.2⟩)
          exact hfin
        rw [decide_eq_false hd]
        have hjl : j < L.length := by omega
        clear hd
        go_wp2_with fail
        refine (rd_next _ rb A c n j L 0 0 Ra.out).mono ?_
        rintro e w4 ⟨rfl, b4⟩
        have R4 := Lib.hid (Ra.out.below b4)
        have GR := Lib.hid (Ga.out.below b4)
        have K4 : Hid (KeepR rb w w4) := Lib.hid (Ka.out.trans' (KeepR.of_below' b4))
        have M4 : Hid (KeepM rb g4 wl w4) := Lib.hid (Ma.out.trans' (KeepM.of_below b4))
        have V24 := Lib.hid ((b4.block g2 (lt_of_block V2a.out)).trans V2a.out)
        have V44 := Lib.hid ((b4.block g4 (lt_of_block V4a.out)).trans V4a.out)
        have hs4 := M4.out.size
        clear b4 Ra Ga Ka Ma V2a V4a
        by_cases hpt : tx L j = ⟨#[112, 114, 111, 99]⟩
        · have hq := txt_lity (l := [112, 114, 111, 99]) hpt
          obtain ⟨dd0, dd1, dd2, _, _, _⟩ := box3 V44.out
          by_cases h8 : acc.length = 8
          · have GG : Hid (rdG L n = .bad 5 (posAt L n j)) := Lib.hid (by rw [CH.out, h8, prR_full hjl hpt]; rfl)
            have h8i : ((acc.length : Int) == 8) = true := by rw [beq_iff_eq]; omega
            generalize tx L j = tq at hq ⊢
            clear h8 hpt
            go_wp2_with fail
            refine (rd_fail 5 _ rb A c n j L 0 R4.out).mono ?_
            rintro e w5 ⟨rfl, r5, k5⟩
            have K5 : Hid (KeepR rb w w5) := Lib.hid (K4.out.trans' k5)
            have R5 := Lib.hid r5
            have V25 := Lib.hid ((k5.block g2 (lt_of_block V24.out) hn2r).trans V24.out)
            clear r5 k5 dd0 dd1 dd2
            obtain ⟨c0, c1, c2, f0, f1, f2⟩ := box3 V25.out
            have hz := lt_of_block V25.out
            go_wp2_with fail
            refine bodyPost_ret (v := .tuple #[.agg #[.slice none 0 0, .slice none 0 0, .slice none 0 0], .bool false]) (by simp [results, Tryd.results18, go_sem, c0, c1, c2]) rfl ?_
            rw [GG.out]
            exact finGB HG.out K5.out R5.out HA.out hrb
          · have h8i : ((acc.length : Int) == 8) = false := beq_eq_false_iff_ne.2 (by omega)
            have HT8 : Hid (8 - acc.length = 0 → ¬ tx L j = ⟨#[112, 114, 111, 99]⟩) := Lib.hid (fun h => by omega)
            obtain ⟨tq, htq⟩ : ∃ tq, tx L j = tq := ⟨_, rfl⟩
            rw [htq] at hq ⊢
            clear hpt htq
            go_wp2_with fail
            refine (rd_proc_of W0 _ rb A c n j L TB.out (KeepR.base K4.out BS.out hr0) hr0 (fun b o e => Nat.lt_of_lt_of_le (HA.out b o e) K4.out.size) R4.out).mono ?_
            rintro e w5 ⟨k5, hret⟩
            have K5 : Hid (KeepR rb w w5) := Lib.hid (K4.out.trans' k5)
            have V25 := Lib.hid ((k5.block g2 (lt_of_block V24.out) hn2r).trans V24.out)
            have V45 := Lib.hid ((k5.block g4 (lt_of_block V44.out) hn4r).trans V44.out)
            have M5 : Hid (KeepM rb g4 wl w5) := Lib.hid (M4.out.trans k5 (fun _ _ h => h.1))
            have Q5 : Hid (KeepR rb w4 w5) := Lib.hid k5
            have S5 := k5.size
            clear k5
            obtain ⟨gg, hgg⟩ : ∃ gg, procG L n j = gg := ⟨_, rfl⟩
            rw [hgg] at hret
            cases gg with
            | bad fc fp =>
              obtain ⟨x, q, rfl, r5⟩ := hret
              have GG : Hid (rdG L n = .bad fc fp) := Lib.hid (by rw [CH.out, prR_bad hjl hgg HT8.out]; rfl)
              have B6 : Hid (Below w5.heap.size w5 (w5.alloc (.cells #[.string x.s, .slice x.A x.m x.c] 46))) := Lib.hid (Below.alloc (Below.refl _ _) (Nat.le_refl _) _)
              have R6 := Lib.hid (r5.below B6.out)
              have K6 : Hid (KeepR rb w (w5.alloc (.cells #[.string x.s, .slice x.A x.m x.c] 46))) := Lib.hid (K5.out.trans' (KeepR.of_below' B6.out))
              have V6 := Lib.hid ((B6.out.block g2 (lt_of_block V25.out)).trans V25.out)
              clear r5 hgg V45 M5 Q5
              obtain ⟨w6, hw6⟩ : ∃ w6, w5.alloc (.cells #[.string x.s, .slice x.A x.m x.c] 46) = w6 := ⟨_, rfl⟩
              go_upto_region 13 with fail
              rw [hw6] at R6 K6 V6
              (try rw [hw6])
              clear hw6 B6
              obtain ⟨c0, c1, c2, f0, f1, f2⟩ := box3 V6.out
              have hz := lt_of_block V6.out
              go_wp2_with fail
              refine bodyPost_ret (v := .tuple #[.agg #[.slice none 0 0, .slice none 0 0, .slice none 0 0], .bool false]) (by simp [results, Tryd.results18, go_sem, c0, c1, c2]) rfl ?_
              rw [GG.out]
              exact finGB HG.out K6.out R6.out HA.out hrb
            | ok p q =>
              obtain ⟨x, rfl, hp, r5⟩ := hret
              have hpo := procG_ok hgg
              have hr8 : ∃ r, 8 - acc.length = r + 1 := by
                rcases Nat.eq_zero_or_pos (8 - acc.length) with h | h
                · exfalso
                  have h1 := HT8.out h
                  rw [procG_bad h1] at hgg
                  cases hgg
                · exact ⟨8 - acc.length - 1, by omega⟩
              obtain ⟨r8, hr8⟩ := hr8
              have GN : Hid (rdG L n = pgP gl ll (prR L n (8 - (acc.length + 1)) (acc ++ [p]) q)) := Lib.hid (by rw [CH.out, hr8, prR_step hjl hgg]; congr 2; omega)
              have R5 := Lib.hid r5
              have HP := Lib.hid hp
              have hat2 := Lib.hid (atOf_rd r5)
              have ha8 : acc.length < 8 := by omega
              clear r5 hp hgg hr8
              have B6 : Hid (Below w5.heap.size w5 (w5.alloc (.cells #[.string x.s, .slice x.A x.m x.c] 46))) := Lib.hid (Below.alloc (Below.refl _ _) (Nat.le_refl _) _)
              have X6 : Hid ((w5.alloc (.cells #[.string x.s, .slice x.A x.m x.c] 46)).heap[w5.heap.size]? = some (.cells #[.string x.s, .slice x.A x.m x.c] 46 (0, 0))) := Lib.hid (heap_alloc_new _ _)
              have V46 := Lib.hid ((B6.out.block g4 (lt_of_block V45.out)).trans V45.out)
              have V26 := Lib.hid ((B6.out.block g2 (lt_of_block V25.out)).trans V25.out)
              have P6 := Lib.hid (HP.out.keep (fun b hb => B6.out.block b hb.2))
              have R6 := Lib.hid (R5.out.below B6.out)
              have K6 : Hid (KeepR rb w (w5.alloc (.cells #[.string x.s, .slice x.A x.m x.c] 46))) := Lib.hid (K5.out.trans' (KeepR.of_below' B6.out))
              have Q6 : Hid (KeepR rb w4 (w5.alloc (.cells #[.string x.s, .slice x.A x.m x.c] 46))) := Lib.hid (Q5.out.trans' (KeepR.of_below' B6.out))
              have M6 : Hid (KeepM rb g4 wl (w5.alloc (.cells #[.string x.s, .slice x.A x.m x.c] 46))) := Lib.hid (M5.out.trans' (KeepM.of_below B6.out))
              obtain ⟨w6, hw6⟩ : ∃ w6, w5.alloc (.cells #[.string x.s, .slice x.A x.m x.c] 46) = w6 := ⟨_, rfl⟩
              have hz6a : w6.heap.size ≤ w5.heap.size + 1 := by rw [← hw6]; simp
              have hz6b : w5.heap.size + 1 ≤ w6.heap.size := by rw [← hw6]; simp
              go_upto_region 13 with fail
              rw [hw6] at X6 V46 V26 P6 R6 K6 Q6 M6
              (try rw [hw6])
              obtain ⟨g6, hg6⟩ : ∃ g, w5.heap.size = g := ⟨_, rfl⟩
              rw [hg6] at X6 ⊢
              clear hw6 B6 V45 V25 HP R5 K5 Q5 M5
              obtain ⟨x0, x1, _, _⟩ := prc2 X6.out
              obtain ⟨d0, d1, d2, e0, e1, e2⟩ := box3 V46.out
              have hz4 := lt_of_block V46.out
              obtain ⟨xs, G, hxl, ow, hG, hd, hx⟩ := GR.out
              have OW := Lib.hid (ow.keep Q6.out (fun b hb => by show b ≠ rb; have := (ow.lt b hb).1; omega)).own
              have OX := Lib.hid ow
              have HX := Lib.hid (And.intro hxl (And.intro hG (And.intro hd hx)))
              clear ow hxl hG hd hx
              have tst1 : acc.length + 1 ≤ maxLen := by simp only [maxLen]; omega
              have tst2 : (acc.length + 1) * 40 ≤ 140737488355328 := by omega
              go_wp2_with (at_builtin; refine wpList_appG_new w6.heap.size rfl rfl _ _ _ rfl prT OW.out _ 1 rfl rfl rfl (by simp [Value.oneCell']) tst1 tst2 ?_; intro v7 w7 own7 gr7; obtain ⟨A7, m7, c7, hv7⟩ := own7.slice3P; subst hv7; have hwz7 := gr7.keep.size; have OKB : Hid (∀ b, b < wl.heap.size → (.slice A' acc.length c' : Value).ownBlock ≠ some b) := Lib.hid fun b hb e => by { have := OX.out.lt b e; omega }; have BG : Hid (Keep (fun b => b < wl.heap.size) w6 w7) := Lib.hid (gr7.keep.mono fun b _ hb => OKB.out b hb); have V47 := Lib.hid ((BG.out.block g4 hz4 (by omega)).trans V46.out); obtain ⟨h0', h1', h2', i0, i1, i2⟩ := box3 V47.out; have hz47 := lt_of_block V47.out)
              have GN7 : Hid (GrwP wl.heap.size w7 (.slice A7 m7 c7) (acc ++ [p])) := Lib.hid (grwp_app (S := fun b => b ≠ rb) HX.out.1 OX.out HX.out.2.1 HX.out.2.2.1 HX.out.2.2.2 Q6.out (fun b hb _ => by show b ≠ rb; omega) (P6.out.sub (fun b hb => ⟨hb.1, by have := hb.2; omega⟩)) own7 gr7)
              have V27 := Lib.hid ((BG.out.block g2 (lt_of_block V26.out) (by omega)).trans V26.out)
              have K7 : Hid (KeepR rb w w7) := Lib.hid (K6.out.trans BG.out (fun b hb _ => by omega))
              have M7 : Hid (KeepM rb g4 wl w7) := Lib.hid (M6.out.trans BG.out (fun b hb _ => hb))
              have R7 : Hid (RdAt w7 rb A c n q L 0 0) := Lib.hid (R6.out.keepS BG.out (by omega) (fun b o e => ⟨by have := HA.out b o e; omega, Nat.lt_of_lt_of_le (HA.out b o e) K6.out.size⟩))
              have hlen : (acc ++ [p]).length = acc.length + 1 := by simp
              have hm7 : m7 = acc.length + 1 := by obtain ⟨_, _, e, _⟩ := own7.slice; injection e
              obtain ⟨ac, hac⟩ : ∃ ac, acc ++ [p] = ac := ⟨_, rfl⟩
              rw [hac] at GN7 GN hlen
              have HLEN := Lib.hid hlen
              have HM7 := Lib.hid hm7
              clear hlen hac hm7 own7 gr7
              have V48 := Lib.hid (s3_2 V47.out (.slice A7 m7 c7))
              have R8 := Lib.hid (R7.out.setg (fun e => hn4r e) HA4.out 2 (.slice A7 m7 c7))
              have hat3 := Lib.hid (atOf_rd R8.out)
              have K8 := Lib.hid (KeepR.setgP K7.out (g := g4) (o := 2) (by have := HG4.out; omega) (.slice A7 m7 c7))
              have M8 : Hid (KeepM rb g4 wl (w7.setCell ⟨g4, 2, none⟩ (.slice A7 m7 c7))) := Lib.hid (M7.out.setCell (p := ⟨g4, 2, none⟩) (by simp) _)
              have V28 := Lib.hid ((Below.heap_setCell w7 ⟨g4, 2, none⟩ (.slice A7 m7 c7) g2 hn24).trans V27.out)
              have GN8 : Hid (GrwP wl.heap.size (w7.setCell ⟨g4, 2, none⟩ (.slice A7 m7 c7)) (.slice A7 m7 c7) ac) := Lib.hid (GN7.out.keep (S := fun b => b ≠ g4) (Keep.setCell (Keep.refl _ _) (p := ⟨g4, 2, none⟩) (by simp) _) (fun b hb _ => by show b ≠ g4; omega))
              go_wp2_with fail
              go_roundw
              case rel =>
                have e : m7 = ac.length := by have := HLEN.out; have := HM7.out; omega
                subst e
                exact ⟨ac, q, by have := HLEN.out; omega, Lib.hid ⟨A7, c7, V28.out, V48.out, GN8.out, R8.out, K8.out, M8.out, by rw [GN.out, HLEN.out]⟩⟩
              case measure =>
                have h1 := hat.out
                have h2 := hat3.out
                rw [h1, h2]
                omega
        · have hq := txt_lit (l := [112, 114, 111, 99]) hpt
          have HT8 : Hid (8 - acc.length = 0 → ¬ tx L j = ⟨#[112, 114, 111, 99]⟩) := Lib.hid (fun _ => hpt)
          obtain ⟨tq, htq⟩ : ∃ tq, tx L j = tq := ⟨_, rfl⟩
          rw [htq] at hq ⊢
          clear hpt htq
          go_wp2_with fail
          refine (rd_proc_of W0 _ rb A c n j L TB.out (KeepR.base K4.out BS.out hr0) hr0 (fun b o e => Nat.lt_of_lt_of_le (HA.out b o e) K4.out.size) R4.out).mono ?_
          rintro e w5 ⟨k5, hret⟩
          have K5 : Hid (KeepR rb w w5) := Lib.hid (K4.out.trans' k5)
          have V25 := Lib.hid ((k5.block g2 (lt_of_block V24.out) hn2r).trans V24.out)
          have V45 := Lib.hid ((k5.block g4 (lt_of_block V44.out) hn4r).trans V44.out)
          have M5 : Hid (KeepM rb g4 wl w5) := Lib.hid (M4.out.trans k5 (fun _ _ h => h.1))
          have Q5 : Hid (KeepR rb w4 w5) := Lib.hid k5
          have S5 := k5.size
          clear k5
          obtain ⟨gg, hgg⟩ : ∃ gg, procG L n j = gg := ⟨_, rfl⟩
          rw [hgg] at hret
          cases gg with
          | bad fc fp =>
            obtain ⟨x, q, rfl, r5⟩ := hret
            have GG : Hid (rdG L n = .bad fc fp) := Lib.hid (by rw [CH.out, prR_bad hjl hgg HT8.out]; rfl)
            have B6 : Hid (Below w5.heap.size w5 (w5.alloc (.cells #[.string x.s, .slice x.A x.m x.c] 46))) := Lib.hid (Below.alloc (Below.refl _ _) (Nat.le_refl _) _)
            have R6 := Lib.hid (r5.below B6.out)
            have K6 : Hid (KeepR rb w (w5.alloc (.cells #[.string x.s, .slice x.A x.m x.c] 46))) := Lib.hid (K5.out.trans' (KeepR.of_below' B6.out))
            have V6 := Lib.hid ((B6.out.block g2 (lt_of_block V25.out)).trans V25.out)
            clear r5 hgg V45 M5 Q5
            obtain ⟨w6, hw6⟩ : ∃ w6, w5.alloc (.cells #[.string x.s, .slice x.A x.m x.c] 46) = w6 := ⟨_, rfl⟩
            go_upto_region 13 with fail
            rw [hw6] at R6 K6 V6
            (try rw [hw6])
            clear hw6 B6
            obtain ⟨c0, c1, c2, f0, f1, f2⟩ := box3 V6.out
            have hz := lt_of_block V6.out
            go_wp2_with fail
            refine bodyPost_ret (v := .tuple #[.agg #[.slice none 0 0, .slice none 0 0, .slice none 0 0], .bool false]) (by simp [results, Tryd.results18, go_sem, c0, c1, c2]) rfl ?_
            rw [GG.out]
            exact finGB HG.out K6.out R6.out HA.out hrb
          | ok p q =>
            obtain ⟨x, rfl, hp, r5⟩ := hret
            have hpo := procG_ok hgg
            have hr8 : ∃ r, 8 - acc.length = r + 1 := by
              rcases Nat.eq_zero_or_pos (8 - acc.length) with h | h
              · exfalso
                have h1 := HT8.out h
                rw [procG_bad h1] at hgg
                cases hgg
              · exact ⟨8 - acc.length - 1, by omega⟩
            obtain ⟨r8, hr8⟩ := hr8
            have GN : Hid (rdG L n = pgP gl ll (prR L n (8 - (acc.length + 1)) (acc ++ [p]) q)) := Lib.hid (by rw [CH.out, hr8, prR_step hjl hgg]; congr 2; omega)
            have R5 := Lib.hid r5
            have HP := Lib.hid hp
            have hat2 := Lib.hid (atOf_rd r5)
            have ha8 : acc.length < 8 := by omega
            clear r5 hp hgg hr8
            have B6 : Hid (Below w5.heap.size w5 (w5.alloc (.cells #[.string x.s, .slice x.A x.m x.c] 46))) := Lib.hid (Below.alloc (Below.refl _ _) (Nat.le_refl _) _)
            have X6 : Hid ((w5.alloc (.cells #[.string x.s, .slice x.A x.m x.c] 46)).heap[w5.heap.size]? = some (.cells #[.string x.s, .slice x.A x.m x.c] 46 (0, 0))) := Lib.hid (heap_alloc_new _ _)
            have V46 := Lib.hid ((B6.out.block g4 (lt_of_block V45.out)).trans V45.out)
            have V26 := Lib.hid ((B6.out.block g2 (lt_of_block V25.out)).trans V25.out)
            have P6 := Lib.hid (HP.out.keep (fun b hb => B6.out.block b hb.2))
            have R6 := Lib.hid (R5.out.below B6.out)
            have K6 : Hid (KeepR rb w (w5.alloc (.cells #[.string x.s, .slice x.A x.m x.c] 46))) := Lib.hid (K5.out.trans' (KeepR.of_below' B6.out))
            have Q6 : Hid (KeepR rb w4 (w5.alloc (.cells #[.string x.s, .slice x.A x.m x.c] 46))) := Lib.hid (Q5.out.trans' (KeepR.of_below' B6.out))
            have M6 : Hid (KeepM rb g4 wl (w5.alloc (.cells #[.string x.s, .slice x.A x.m x.c] 46))) := Lib.hid (M5.out.trans' (KeepM.of_below B6.out))
            obtain ⟨w6, hw6⟩ : ∃ w6, w5.alloc (.cells #[.string x.s, .slice x.A x.m x.c] 46) = w6 := ⟨_, rfl⟩
            have hz6a : w6.heap.size ≤ w5.heap.size + 1 := by rw [← hw6]; simp
            have hz6b : w5.heap.size + 1 ≤ w6.heap.size := by rw [← hw6]; simp
            go_upto_region 13 with fail
            rw [hw6] at X6 V46 V26 P6 R6 K6 Q6 M6
            (try rw [hw6])
            obtain ⟨g6, hg6⟩ : ∃ g, w5.heap.size = g := ⟨_, rfl⟩
            rw [hg6] at X6 ⊢
            clear hw6 B6 V45 V25 HP R5 K5 Q5 M5
            obtain ⟨x0, x1, _, _⟩ := prc2 X6.out
            obtain ⟨d0, d1, d2, e0, e1, e2⟩ := box3 V46.out
            have hz4 := lt_of_block V46.out
            obtain ⟨xs, G, hxl, ow, hG, hd, hx⟩ := GR.out
            have OW := Lib.hid (ow.keep Q6.out (fun b hb => by show b ≠ rb; have := (ow.lt b hb).1; omega)).own
            have OX := Lib.hid ow
            have HX := Lib.hid (And.intro hxl (And.intro hG (And.intro hd hx)))
            clear ow hxl hG hd hx
            have tst1 : acc.length + 1 ≤ maxLen := by simp only [maxLen]; omega
            have tst2 : (acc.length + 1) * 40 ≤ 140737488355328 := by omega
            go_wp2_with (at_builtin; refine wpList_appG_new w6.heap.size rfl rfl _ _ _ rfl prT OW.out _ 1 rfl rfl rfl (by simp [Value.oneCell']) tst1 tst2 ?_; intro v7 w7 own7 gr7; obtain ⟨A7, m7, c7, hv7⟩ := own7.slice3P; subst hv7; have hwz7 := gr7.keep.size; have OKB : Hid (∀ b, b < wl.heap.size → (.slice A' acc.length c' : Value).ownBlock ≠ some b) := Lib.hid fun b hb e => by { have := OX.out.lt b e; omega }; have BG : Hid (Keep (fun b => b < wl.heap.size) w6 w7) := Lib.hid (gr7.keep.mono fun b _ hb => OKB.out b hb); have V47 := Lib.hid ((BG.out.block g4 hz4 (by omega)).trans V46.out); obtain ⟨h0', h1', h2', i0, i1, i2⟩ := box3 V47.out; have hz47 := lt_of_block V47.out)
            have GN7 : Hid (GrwP wl.heap.size w7 (.slice A7 m7 c7) (acc ++ [p])) := Lib.hid (grwp_app (S := fun b => b ≠ rb) HX.out.1 OX.out HX.out.2.1 HX.out.2.2.1 HX.out.2.2.2 Q6.out (fun b hb _ => by show b ≠ rb; omega) (P6.out.sub (fun b hb => ⟨hb.1, by have := hb.2; omega⟩)) own7 gr7)
            have V27 := Lib.hid ((BG.out.block g2 (lt_of_block V26.out) (by omega)).trans V26.out)
            have K7 : Hid (KeepR rb w w7) := Lib.hid (K6.out.trans BG.out (fun b hb _ => by omega))
            have M7 : Hid (KeepM rb g4 wl w7) := Lib.hid (M6.out.trans BG.out (fun b hb _ => hb))
            have R7 : Hid (RdAt w7 rb A c n q L 0 0) := Lib.hid (R6.out.keepS BG.out (by omega) (fun b o e => ⟨by have := HA.out b o e; omega, Nat.lt_of_lt_of_le (HA.out b o e) K6.out.size⟩))
            have hlen : (acc ++ [p]).length = acc.length + 1 := by simp
            have hm7 : m7 = acc.length + 1 := by obtain ⟨_, _, e, _⟩ := own7.slice; injection e
            obtain ⟨ac, hac⟩ : ∃ ac, acc ++ [p] = ac := ⟨_, rfl⟩
            rw [hac] at GN7 GN hlen
            have HLEN := Lib.hid hlen
            have HM7 := Lib.hid hm7
            clear hlen hac hm7 own7 gr7
            have V48 := Lib.hid (s3_2 V47.out (.slice A7 m7 c7))
            have R8 := Lib.hid (R7.out.setg (fun e => hn4r e) HA4.out 2 (.slice A7 m7 c7))
            have hat3 := Lib.hid (atOf_rd R8.out)
            have K8 := Lib.hid (KeepR.setgP K7.out (g := g4) (o := 2) (by have := HG4.out; omega) (.slice A7 m7 c7))
            have M8 : Hid (KeepM rb g4 wl (w7.setCell ⟨g4, 2, none⟩ (.slice A7 m7 c7))) := Lib.hid (M7.out.setCell (p := ⟨g4, 2, none⟩) (by simp) _)
            have V28 := Lib.hid ((Below.heap_setCell w7 ⟨g4, 2, none⟩ (.slice A7 m7 c7) g2 hn24).trans V27.out)
            have GN8 : Hid (GrwP wl.heap.size (w7.setCell ⟨g4, 2, none⟩ (.slice A7 m7 c7)) (.slice A7 m7 c7) ac) := Lib.hid (GN7.out.keep (S := fun b => b ≠ g4) (Keep.setCell (Keep.refl _ _) (p := ⟨g4, 2, none⟩) (by simp) _) (fun b hb _ => by show b ≠ g4; omega))
            go_wp2_with fail
            go_roundw
            case rel =>
              have e : m7 = ac.length := by have := HLEN.out; have := HM7.out; omega
              subst e
              exact ⟨ac, q, by have := HLEN.out; omega, Lib.hid ⟨A7, c7, V28.out, V48.out, GN8.out, R8.out, K8.out, M8.out, by rw [GN.out, HLEN.out]⟩⟩
            case measure =>
              have h1 := hat.out
              have h2 := hat3.out
              rw [h1, h2]
              omega
end Go.Proofs.YtdanlgmpgdipnaaDoor
